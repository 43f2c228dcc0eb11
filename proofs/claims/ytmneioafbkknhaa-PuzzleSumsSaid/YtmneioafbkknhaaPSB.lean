import Derived.Test.YtmneioafbkknhaaPSA
import Derived.Orders
set_option linter.unusedVariables false
set_option linter.unusedSimpArgs false
/- PS13: regions in the order of the text, code, functions. -/
namespace Go.PS
open Go Go.RowKit

/-- A Bool that an earlier operation of the region left. -/
def gdV : PV → Option (Option Bool)
  | .t _ (.v (.bool b)) => some (some b)
  | .t _ (.v (.tuple _)) => some none
  | _ => none
def gdPV (ops : Array Oper) (s : StL) (j : Nat) : Option (Option Bool) :=
  match (ops[j]?).bind (·.dst) with
  | some d => gdV (getT s.T d)
  | none => none
/-- What an operation that is skipped leaves. -/
abbrev skipPV : PV := .t .fz (.v (.tuple #[]))

/-- Is the operation wanted? -/
def wantPV (ops : Array Oper) (s : StL) (o : Oper) : Option Bool :=
  match o.guard with
  | none => some true
  | some (j, b) => (gdPV ops s j).map (· == some b)

def callee (s : StL) (c : Call) : Option (FuncId × List PV) :=
  match c.callee with
  | .value f => match ev s f with
    | .clo f caps => some (f, c.args.toList.map (ev s) ++ caps)
    | .t k (.clo f caps) => some (f, c.args.toList.map (ev s) ++ caps.map (PV.t k))
    | _ => none
  | _ => none

/-- A call: by a contract of what may be changed. -/
def ECallW (P : Program) (s : StL) (d : Nat) (f : FuncId) (pvs : List PV) (K : StL → Prop) : Prop :=
  ∃ (g : Sg) (args : List PV) (M : List (Nat × Res)) (Post : PV → List (Nat × Res) → Prop), ECallP P f args M Post ∧ g.ok = true ∧ PV.mpL g.to true pvs = args ∧ (∀ p ∈ g, getM M p.2 = (getM s.M p.1).mp g.to true) ∧ M.all (fun q => (g.bk q.1).isSome) = true ∧ ∀ r M', Post r M' → K (retE s d g r M')
theorem ECallW.mono {P : Program} {s : StL} {d : Nat} {f : FuncId} {pvs : List PV} {K K' : StL → Prop} (h : ECallW P s d f pvs K) (hK : ∀ s, K s → K' s) : ECallW P s d f pvs K' := by
  obtain ⟨g, args, M, Post, h1, h2, h3, h4, h5, h6⟩ := h
  exact ⟨g, args, M, Post, h1, h2, h3, h4, h5, fun r M' hP => hK _ (h6 r M' hP)⟩

def CallB (P : Program) (s : StL) (d : Nat) (f : FuncId) (pvs : List PV) (K : StL → Prop) : Prop :=
  (match optL (lendPV 5 s) pvs with
    | none => False
    | some (b, tls) => ∃ r Mr, PCall P f tls r Mr ∧ (b = true → r.noRo = true ∧ Mr.all (fun p => p.2.noRo) = true) ∧ match retS s d r Mr with
      | some s' => K s'
      | none => False) ∨ ECallW P s d f pvs K
theorem CallB.mono {P : Program} {s : StL} {d : Nat} {f : FuncId} {pvs : List PV} {K K' : StL → Prop} (h : CallB P s d f pvs K) (hK : ∀ s, K s → K' s) : CallB P s d f pvs K' := by
  unfold CallB at h ⊢
  refine h.imp (fun h => ?_) (fun h => h.mono hK)
  split at h
  · exact h.elim
  · obtain ⟨r, Mr, h1, h3, h4⟩ := h
    refine ⟨r, Mr, h1, h3, ?_⟩
    split at h4
    · exact hK _ h4
    · exact h4.elim

/-- A call: by a contract; some memory of our own may be given up before. -/
def CallW (P : Program) (n : Nat) (dst : Option Nat) (s : StL) (f : FuncId) (pvs : List PV) (K : StL → Prop) : Prop :=
  match dst with
  | none => False
  | some d => d < n ∧ (CallB P s d f pvs K ∨ ∃ z, CallB P (frzZ z s) d f (pvs.map (frzQ z s)) K)

def StepW (P : Program) (n : Nat) (dst : Option Nat) (s : StL) (op : Op) (K : StL → Prop) : Prop :=
  match step P n dst s op with
  | some s' => K s'
  | none => False

/-- A step of a range over a map: it is over, or any entry that is left comes out. -/
def NextW (n : Nat) (dst : Option Nat) (s : StL) (p : PV) (K : StL → Prop) : Prop :=
  match dst, p with
  | some d, .ptr m 0 => match getM s.M m with
    | .iter mn nn seen => match getM s.M mn with
      | .tab k es => d < n ∧ es.length = nn ∧ ((∀ i, i < nn → i ∈ seen) → K ⟨(d, .tup [.t .fz (.v (.bool false))]) :: s.T, s.M⟩) ∧
          ∀ i p, es[i]? = some p → i ∉ seen → K ⟨(d, .tup [.t .fz (.v (.bool true)), .t .fz (.v p.1), .t k p.2]) :: s.T, (m, .iter mn nn (i :: seen)) :: s.M⟩
      | _ => False
    | _ => False
  | _, _ => False

def OpW (P : Program) (n : Nat) (dst : Option Nat) (s : StL) (op : Op) (K : StL → Prop) : Prop :=
  match op with
  | .next x false => NextW n dst s (ev s x) K
  | .call c => match callee s c with
    | some (f, pvs) => CallW P n dst s f pvs K
    | none => StepW P n dst s (.call c) K
  | op => StepW P n dst s op K

def skipS (s : StL) (dst : Option Nat) : StL :=
  match dst with
  | some d => ⟨(d, skipPV) :: s.T, s.M⟩
  | none => s

def RunW (P : Program) (n : Nat) (ops : Array Oper) : List Oper → StL → (StL → Prop) → Prop
  | [], s, K => K s
  | o :: rest, s, K => match wantPV ops s o with
    | some true => OpW P n o.dst s o.op fun s' => RunW P n ops rest s' K
    | some false => (∀ d, o.dst = some d → d < n) ∧ RunW P n ops rest (skipS s o.dst) K
    | none => False

section
variable {P : Program} {w0 : Base} {F0 : Nat → Prop} {n : Nat} {s : StL} {a : Act} {w : World} {φ : Nat → Value} {fp : Nat → Nat → Prop}

theorem gdPV_rep (h : Sim w0 F0 n s a w) {ops : Array Oper} {j : Nat} {b : Option Bool} (hg : gdPV ops s j = some b) : yielded ops a.tmps j = b := by
  obtain ⟨φ, fp, h⟩ := h
  unfold gdPV at hg
  split at hg
  · rename_i d hd
    unfold yielded
    rw [hd]
    have ht := h.tmp d
    generalize getT s.T d = pv at hg ht
    unfold gdV at hg
    split at hg
    · rename_i k b'
      cases hg
      have hv := ht.t_inv.v_inv
      rw [Array.getD_eq_getD_getElem?] at hv
      simp only [Option.bind_some]
      cases ht : a.tmps[d]? with
      | none => rw [ht] at hv; simp [Go.undef] at hv
      | some v => rw [ht] at hv; simp at hv; subst hv; rfl
    · rename_i k b'
      cases hg
      have hv := ht.t_inv.v_inv
      rw [Array.getD_eq_getD_getElem?] at hv
      simp only [Option.bind_some]
      cases ht : a.tmps[d]? with
      | none => rfl
      | some v => rw [ht] at hv; simp at hv; subst hv; rfl
    · cases hg
  · cases hg

theorem want_rep (h : Sim w0 F0 n s a w) {ops : Array Oper} {o : Oper} {b : Bool} (hg : wantPV ops s o = some b) : Region.wanted o (yielded ops a.tmps) = b := by
  unfold wantPV at hg
  unfold Region.wanted
  split at hg
  · rename_i hn
    cases hg
    rw [hn]
  · rename_i j b' hn
    obtain ⟨c, hc, rfl⟩ := Option.map_eq_some_iff.1 hg
    rw [hn]
    show (yielded ops a.tmps j == some b') = (c == some b')
    rw [gdPV_rep h hc]

theorem skip_sim (h : Sim w0 F0 n s a w) (dst : Option Nat) (hd : ∀ d, dst = some d → d < n) : Sim w0 F0 n (skipS s dst) (a.put dst Go.undef) w := by
  cases dst with
  | none => exact h
  | some d =>
    obtain ⟨φ, fp, h⟩ := h
    exact ⟨φ, fp, h.put (hd d rfl) (.t (.v _))⟩

theorem callee_rep (h : SimX w0 F0 n s a w φ fp) {c : Call} {f : FuncId} {pvs : List PV} (hc : callee s c = some (f, pvs)) : ∃ x vs, c.callee = .value x ∧ a.eval x = .func (.func f) #[] vs ∧
    (c.args.map a.eval ++ vs).size = pvs.length ∧ ∀ (j : Nat) (p : PV), pvs[j]? = some p → PVRep w φ (Stb w0 w fp) p ((c.args.map a.eval ++ vs).getD j Go.undef) := by
  have hargs : ∀ (caps : List PV) (vs : Array Value), vs.size = caps.length → (∀ (j : Nat) (x : PV), caps[j]? = some x → PVRep w φ (Stb w0 w fp) x (vs.getD j Go.undef)) →
      (c.args.map a.eval ++ vs).size = (c.args.toList.map (ev s) ++ caps).length ∧ ∀ (j : Nat) (p : PV), (c.args.toList.map (ev s) ++ caps)[j]? = some p → PVRep w φ (Stb w0 w fp) p ((c.args.map a.eval ++ vs).getD j Go.undef) := by
    intro caps vs hs hr
    refine ⟨by simp [hs], fun j p hj => ?_⟩
    by_cases hlt : j < c.args.size
    · rw [List.getElem?_append_left (by simpa using hlt), List.getElem?_map] at hj
      obtain ⟨y, hy, rfl⟩ := Option.map_eq_some_iff.1 hj
      rw [Array.getElem?_toList] at hy
      have : (c.args.map a.eval ++ vs).getD j Go.undef = a.eval y := by
        rw [Array.getD_eq_getD_getElem?, Array.getElem?_append_left (by simpa using hlt), Array.getElem?_map, hy]
        rfl
      rw [this]
      exact h.ev y
    · rw [List.getElem?_append_right (by simpa using Nat.le_of_not_lt hlt)] at hj
      have := hr _ _ hj
      rw [Array.getD_eq_getD_getElem?, Array.getElem?_append_right (by simpa using Nat.le_of_not_lt hlt), ← Array.getD_eq_getD_getElem?]
      simpa using this
  unfold callee at hc
  split at hc
  · rename_i x hx
    have hr := h.ev x
    split at hc
    · rename_i f' caps he
      cases hc
      rw [he] at hr
      generalize hu : a.eval x = u at hr
      cases hr with
      | clo vs hs hrep =>
        obtain ⟨h1, h2⟩ := hargs caps vs hs hrep
        exact ⟨x, vs, hx, hu, h1, h2⟩
    · rename_i k f' caps he
      cases hc
      rw [he] at hr
      generalize hu : a.eval x = u at hr
      cases hr.t_inv with
      | clo vs hs hrep =>
        obtain ⟨h1, h2⟩ := hargs (caps.map (PV.t k)) vs (by simpa using hs) fun j x hx => by
          rw [List.getElem?_map] at hx
          obtain ⟨y, hy, rfl⟩ := Option.map_eq_some_iff.1 hx
          exact .t (hrep _ _ hy)
        exact ⟨x, vs, hx, hu, h1, h2⟩
    · cases hc
  · cases hc

theorem run_callFunc {f : FuncId} (hc : Callable P f) (args : Array Value) (w : World) : (callFunc f args).run P w = .ok (.enter f args) w := by
  obtain ⟨fn, c, hf, hb, hn⟩ := hc
  have hn' : ¬ fn.name = "runtime.NumGoroutine" := by simpa using hn
  simp [callFunc, hf, hb, hn']

theorem callB_sim (h : SimX w0 F0 n s a w φ fp) {f d : Nat} {pvs : List PV} {vals : Array Value} {K : StL → Prop} (hdn : d < n) (hv : vals.size = pvs.length)
    (hp : ∀ (j : Nat) (p : PV), pvs[j]? = some p → PVRep w φ (Stb w0 w fp) p (vals.getD j Go.undef)) (hq : CallB P s d f pvs K) :
    Callable P f ∧ Calls P f vals w (fun e w' => ∃ v s', e = .returned v ∧ K s' ∧ Sim w0 F0 n s' (a.put (some d) v) w') := by
  unfold CallB at hq
  rcases hq with hq | hq
  · split at hq
    · exact hq.elim
    · rename_i b tls hl
      obtain ⟨r, Mr, hpc, hno, hq⟩ := hq
      split at hq
      · rename_i s' hret
        refine ⟨hpc.1, (call_sim h hdn hv hp hl hpc hno hret).mono ?_⟩
        rintro e w' ⟨v, rfl, hs⟩
        exact ⟨v, s', rfl, hq, hs⟩
      · exact hq.elim
  · obtain ⟨g, args, M, Post, hpc, hok, hargs, hM, hM', hq⟩ := hq
    refine ⟨hpc.1, (ecall_sim h g hdn hv hp hpc hok hargs hM hM').mono ?_⟩
    rintro e w' ⟨v, r, M', hP, rfl, hs⟩
    exact ⟨v, _, rfl, hq r M' hP, hs⟩

theorem next_wp (h : Sim w0 F0 n s a w) {o : Oper} {x : Operand} {K : StL → Prop} {next : Act → World → Prop} {Q : Exit → Act → World → Prop} (ho : o.op = .next x false) (hq : NextW n o.dst s (ev s x) K)
    (hn : ∀ s' a' w', K s' → Sim w0 F0 n s' a' w' → next a' w') : o.wp P a w next Q := by
  obtain ⟨φ, fp, hx⟩ := h
  unfold NextW at hq
  split at hq
  · rename_i d m hd hev
    split at hq
    · rename_i mn nn seen hM
      split at hq
      · rename_i k es hMn
        obtain ⟨hdn, hl, hover, hstep⟩ := hq
        have hp := hx.ev x
        rw [hev] at hp
        generalize hu : a.eval x = u at hp
        cases hp with
        | @ptr _ _ g hφ =>
        have hres := hx.res m
        rw [hM] at hres
        obtain ⟨g', r, sa, hv, hF, hφm, hh, hs, hlt⟩ := hres
        rw [hφ] at hv
        cases hv
        have hres2 := hx.res mn
        rw [hMn] at hres2
        obtain ⟨r2, ents, hv2, _, hh2, he⟩ := hres2
        rw [hφm] at hv2
        cases hv2
        have hmem : ∀ e ∈ ents.toList, ∃ i p, ents.toList[i]? = some e ∧ es[i]? = some p ∧ e.key = p.1 ∧ e.born = i ∧ TRep w (Stb w0 w fp k) p.2 e.val := by
          intro e hem
          obtain ⟨i, hi, rfl⟩ := List.getElem_of_mem hem
          obtain ⟨p, h1, h2, h3, h4⟩ := he.get i ents.toList[i] (by simp)
          exact ⟨i, p, by simp, h1, h2, by omega, h4⟩
        have hold : ∀ e ∈ ents.toList, e.born < nn := by
          intro e hem
          obtain ⟨i, p, _, h1, _, h3, _⟩ := hmem e hem
          have := (List.getElem?_eq_some_iff.1 h1).1
          omega
        have hsc : ∀ i, sa.contains i = true ↔ i ∈ seen := by
          intro i
          rw [← hs, List.mem_reverse, Array.mem_toList_iff]
          simp
        unfold Oper.wp
        rcases run_next_at (P := P) w o.type g r nn nn sa ents es.length hh hh2 hold (Nat.le_refl _) with ⟨h0, hrun⟩ | ⟨e, hel, w1, hw1, hrun⟩
        · have hrun' : (execOp a.eval o).run P w = .ok (.value (.tuple #[.bool false])) w := by
            simp only [execOp, ho, hu]
            exact run_value hrun
          rw [hrun']
          show next (a.put o.dst (.tuple #[.bool false])) w
          rw [hd]
          refine hn _ _ _ (hover fun i hi => ?_) ⟨φ, fp, hx.put hdn (.tup _ rfl fun j y hy => ?_)⟩
          · have hil : i < ents.toList.length := by rw [he.length]; omega
            obtain ⟨p, h1, h2, h3, h4⟩ := he.get i ents.toList[i] (by simp)
            rw [← hsc]
            cases hc : sa.contains i with
            | true => rfl
            | false =>
              exfalso
              have : ents.toList[i] ∈ (leftOf ents sa).toList := by
                unfold leftOf
                rw [Array.toList_filter, List.mem_filter]
                refine ⟨List.getElem_mem hil, ?_⟩
                have hb : (ents.toList[i]).born = i := by omega
                rw [hb, hc]
                rfl
              have h5 : (leftOf ents sa).toList.length = 0 := by simpa using h0
              rw [List.eq_nil_of_length_eq_zero h5] at this
              cases this
          · match j, hy with
            | 0, hy => simp at hy; subst hy; exact .t (.v _)
            | j + 1, hy => simp at hy
        · have hrun' : (execOp a.eval o).run P w = .ok (.value (.tuple #[.bool true, e.key, e.val])) (ChangeMaps.setBlock w1 g (.mapIter (some r) nn (sa.push e.born) es.length)) := by
            simp only [execOp, ho, hu]
            exact run_value hrun
          rw [hrun']
          show next (a.put o.dst (.tuple #[.bool true, e.key, e.val])) _
          rw [hd]
          unfold leftOf at hel
          rw [Array.toList_filter, List.mem_filter] at hel
          obtain ⟨i, p, _, h1, h2, h3, h4⟩ := hmem e hel.1
          subst h3
          have hns : e.born ∉ seen := by
            rw [← hsc]
            simpa using hel.2
          have hx1 : SimX w0 F0 n s a w1 φ fp := by
            rcases hw1 with rfl | rfl
            · exact hx
            · exact hx.same rfl rfl rfl rfl
          have hheap : w1.heap = w.heap := by rcases hw1 with rfl | rfl <;> rfl
          have hglt : g < w1.heap.size := by rw [hheap]; exact (Array.getElem?_eq_some_iff.1 hh).1
          have hx2 : SimX w0 F0 n ⟨s.T, (m, .iter mn nn (e.born :: seen)) :: s.M⟩ a (ChangeMaps.setBlock w1 g (.mapIter (some r) nn (sa.push e.born) es.length)) φ fp := by
            refine hx1.write rfl rfl rfl (by simp [ChangeMaps.setBlock]) (fun q hq => ?_) (fun hS hSc => ?_)
            · have : q ≠ g := fun e => hq ((hF q).2 e)
              simp [ChangeMaps.setBlock, Ne.symm this]
            · refine ⟨g, r, sa.push e.born, hφ, hF, hφm, ?_, by simp [hs], fun i hi => ?_⟩
              · simp [ChangeMaps.setBlock, hglt, hl]
              · rcases List.mem_cons.1 hi with rfl | hi
                · exact hold e hel.1
                · exact hlt i hi
          refine hn _ _ _ (hstep e.born p h1 hns) ⟨φ, fp, hx2.put hdn (.tup _ rfl fun j y hy => ?_)⟩
          match j, hy with
          | 0, hy => simp at hy; subst hy; exact .t (.v _)
          | 1, hy =>
            simp at hy
            subst hy
            rw [← h2]
            exact .t (.v _)
          | 2, hy =>
            simp at hy
            subst hy
            have hgm : ∀ g', Stb w0 w fp k g' → (ChangeMaps.setBlock w1 g (.mapIter (some r) nn (sa.push e.born) es.length)).heap[g']? = w.heap[g']? := by
              intro g' hg'
              have : g' ≠ g := fun e => hg'.2.1 m ((hF g').2 e)
              simp [ChangeMaps.setBlock, Ne.symm this, hheap]
            refine .t (h4.mono hgm fun g' hg' => ⟨?_, hg'.2⟩)
            have := hg'.1
            simp [ChangeMaps.setBlock, hheap]
            exact this
          | j + 3, hy => simp at hy
      · exact hq.elim
    · exact hq.elim
  · exact hq.elim

/-- One operation, in the machine. -/
theorem opW_wp (h : Sim w0 F0 n s a w) {o : Oper} {K : StL → Prop} {next : Act → World → Prop} {Q : Exit → Act → World → Prop} (hq : OpW P n o.dst s o.op K) (hn : ∀ s' a' w', K s' → Sim w0 F0 n s' a' w' → next a' w') : o.wp P a w next Q := by
  have hstep : ∀ op, o.op = op → StepW P n o.dst s op K → o.wp P a w next Q := by
    intro op ho hs
    unfold StepW at hs
    split at hs
    · rename_i s' he
      rw [← ho] at he
      obtain ⟨nx, v, w', hr, hnx, hsim⟩ := step_run h he
      unfold Oper.wp
      rw [hr]
      rcases hnx with rfl | ⟨rfl, rfl⟩
      · exact hn _ _ _ hs hsim
      · exact hn _ _ _ hs hsim
    · exact hs.elim
  unfold OpW at hq
  split at hq
  · rename_i x ho
    exact next_wp h ho hq hn
  · rename_i c ho
    split at hq
    · rename_i f pvs hcal
      unfold CallW at hq
      split at hq
      · exact hq.elim
      · rename_i d hd
        obtain ⟨φ, fp, hx⟩ := h
        obtain ⟨x, vs, hcx, hev, hsz, hrep⟩ := callee_rep hx hcal
        have key : Callable P f ∧ Calls P f (c.args.map a.eval ++ vs) w (fun e w' => ∃ v s', e = .returned v ∧ K s' ∧ Sim w0 F0 n s' (a.put (some d) v) w') := by
          rcases hq.2 with hq' | ⟨z, hq'⟩
          · exact callB_sim hx hq.1 hsz hrep hq'
          · refine callB_sim (frzZ_sim hx z) hq.1 (by rw [List.length_map]; exact hsz) (fun j p hp => ?_) hq'
            rw [List.getElem?_map] at hp
            obtain ⟨y, hy, rfl⟩ := Option.map_eq_some_iff.1 hp
            exact frzQ_rep hx z (hrep j y hy)
        have hrun : (execOp a.eval o).run P w = .ok (.enter f (c.args.map a.eval ++ vs)) w := by
          simp only [execOp, ho, resolve, hcx, Deferred.ofValue, hev, Sem.run_bind, Sem.run_pure, Result.andThen_ok, invoke]
          rw [run_callFunc key.1]
          simp
        unfold Oper.wp
        rw [hrun, Oper.upon_enter]
        refine key.2.mono ?_
        rintro e w' ⟨v, s', rfl, hK, hs⟩
        rw [hd]
        exact hn _ _ _ hK hs
    · exact hstep _ ho hq
  · exact hstep _ rfl hq

theorem runW_wp {ops : Array Oper} {Q : Exit → Act → World → Prop} : ∀ (l : List Oper) {s : StL} {a : Act} {w : World} {K : StL → Prop}, Sim w0 F0 n s a w → RunW P n ops l s K → (∀ s' a' w', K s' → Sim w0 F0 n s' a' w' → Q .normal a' w') → wpList P ops Q l a w
  | [], s, a, w, K, h, hr, hk => hk _ _ _ hr h
  | o :: rest, s, a, w, K, h, hr, hk => by
    simp only [RunW] at hr
    simp only [wpList]
    split at hr
    · rename_i hw
      rw [want_rep h hw, if_pos rfl]
      exact .inl (opW_wp h hr fun s' a' w' hs' hsim => runW_wp rest hsim hs' hk)
    · rename_i hw
      rw [want_rep h hw, if_neg (by simp)]
      exact runW_wp rest (skip_sim h o.dst hr.1) hr.2 hk
    · exact hr.elim

/-- Code, in a state. -/
def CodeW (P : Program) (n : Nat) (c : Code) (s : StL) (Q : Exit → StL → Prop) : Prop :=
  ∀ (w0 : Base) (F0 : Nat → Prop) (a : Act) (w : World), Sim w0 F0 n s a w → c.wp P (fun e a' w' => ∃ s', Q e s' ∧ Sim w0 F0 n s' a' w') a w

theorem CodeW.mono {c : Code} {Q Q' : Exit → StL → Prop} (h : CodeW P n c s Q) (hq : ∀ e s, Q e s → Q' e s) : CodeW P n c s Q' :=
  fun w0 F0 a w hs => wp_mono (h w0 F0 a w hs) fun e a w ⟨s', h1, h2⟩ => ⟨s', hq _ _ h1, h2⟩

theorem codeW_region {id : Nat} {ops : Array Oper} {Q : Exit → StL → Prop} (h : ∀ K : StL → Prop, (∀ s', Q .normal s' → K s') → RunW P n ops ops.toList s K) : CodeW P n (.region id ops false) s Q := by
  intro w0 F0 a w hs
  refine wp_region ?_
  have e1 : wpOps P ops (fun e a' w' => ∃ s', Q e s' ∧ Sim w0 F0 n s' a' w') (List.range ops.size) = wpList P ops (fun e a' w' => ∃ s', Q e s' ∧ Sim w0 F0 n s' a' w') ops.toList := by
    have := wpOps_eq_wpList (P := P) (ops := ops) (Q := fun e a' w' => ∃ s', Q e s' ∧ Sim w0 F0 n s' a' w') ops.toList 0 (fun j => by simp)
    simpa [List.range_eq_range'] using this
  rw [e1]
  exact runW_wp ops.toList hs (h _ fun s' hs' => hs') fun s' a' w' h1 h2 => ⟨s', h1, h2⟩

def Exit.thenW (next : StL → Prop) (Q : Exit → StL → Prop) : Exit → StL → Prop
  | .normal, s => next s
  | e, s => Q e s

theorem codeW_seq {x y : Code} {Q : Exit → StL → Prop} (h : ∀ K : StL → Prop, (∀ s', CodeW P n y s' Q → K s') → CodeW P n x s (Exit.thenW K Q)) : CodeW P n (x.seq y) s Q := by
  intro w0 F0 a w hs
  have h1 := h (fun s' => CodeW P n y s' Q) (fun _ h => h) w0 F0 a w hs
  refine wp_seq (wp_mono h1 ?_)
  intro e a' w' ⟨s', hq, hs'⟩
  cases e with
  | normal => exact hq w0 F0 a' w' hs'
  | exit id => exact ⟨s', hq, hs'⟩
  | goto l => exact ⟨s', hq, hs'⟩
  | ret => exact ⟨s', hq, hs'⟩
  | panic ch => exact ⟨s', hq, hs'⟩
  | outgrown => exact ⟨s', hq, hs'⟩

theorem codeW_skip {Q : Exit → StL → Prop} (h : Q .normal s) : CodeW P n .skip s Q := fun w0 F0 a w hs => wp_skip ⟨s, h, hs⟩
theorem codeW_exit {id : Nat} {Q : Exit → StL → Prop} (h : Q (.exit id) s) : CodeW P n (.exit id) s Q := fun w0 F0 a w hs => wp_exit ⟨s, h, hs⟩
theorem codeW_ret {Q : Exit → StL → Prop} (h : Q .ret s) : CodeW P n .ret s Q := fun w0 F0 a w hs => wp_ret ⟨s, h, hs⟩

theorem codeW_cond {c : Operand} {x y : Code} {Q : Exit → StL → Prop} {b : Bool} {k : Kind} (hc : ev s c = .t k (.v (.bool b))) (ht : b = true → CodeW P n x s Q) (hf : b = false → CodeW P n y s Q) : CodeW P n (.cond c x y) s Q := by
  intro w0 F0 a w hs
  have hv : a.eval c = .bool b := by
    obtain ⟨φ, fp, h⟩ := hs
    have := h.ev c
    rw [hc] at this
    exact this.t_inv.v_inv
  exact wp_cond_split hv (fun e => ht e w0 F0 a w hs) (fun e => hf e w0 F0 a w hs)

def Exit.inBlockW (id : Nat) (Q : Exit → StL → Prop) : Exit → StL → Prop
  | .exit id', s => if id' = id then Q .normal s else Q (.exit id') s
  | e, s => Q e s

theorem codeW_block {id : Nat} {c : Code} {Q : Exit → StL → Prop} (h : CodeW P n c s (Exit.inBlockW id Q)) : CodeW P n (.block id c) s Q := by
  intro w0 F0 a w hs
  refine wp_block (wp_mono (h w0 F0 a w hs) ?_)
  intro e a' w' ⟨s', hq, hs'⟩
  cases e with
  | exit id' =>
    simp only [Exit.inBlockW] at hq
    simp only [Exit.inBlock]
    split
    · rename_i e
      rw [if_pos e] at hq
      exact ⟨s', hq, hs'⟩
    · rename_i e
      rw [if_neg e] at hq
      exact ⟨s', hq, hs'⟩
  | normal => exact ⟨s', hq, hs'⟩
  | goto l => exact ⟨s', hq, hs'⟩
  | ret => exact ⟨s', hq, hs'⟩
  | panic ch => exact ⟨s', hq, hs'⟩
  | outgrown => exact ⟨s', hq, hs'⟩

/-- s' tells no more than s. -/
def StL.le (s' s : StL) : Prop := (∀ t, getT s'.T t = getT s.T t ∨ getT s'.T t = .undef) ∧ ∀ m, getM s'.M m = getM s.M m ∨ getM s'.M m = .dead

theorem Sim.weak {s' : StL} (h : Sim w0 F0 n s a w) (hl : s'.le s) : Sim w0 F0 n s' a w := by
  obtain ⟨φ, fp, h⟩ := h
  obtain ⟨fp', h'⟩ := (h.weakT hl.1).weakM (M := s'.M) hl.2
  exact ⟨φ, fp', h'⟩

/-- A loop: states told by an index, a measure on it. -/
theorem codeW_loop {ι : Type} {body : Code} {Q : Exit → StL → Prop} (st : ι → StL) (J : ι → Prop) (μ : ι → Nat) (x0 : ι) (h0 : J x0) (hs0 : (st x0).le s)
    (round : ∀ x, J x → CodeW P n body (st x) (Exit.thenW (fun s' => ∃ y, J y ∧ (st y).le s' ∧ μ y < μ x) Q)) : CodeW P n (.loop body) s Q := by
  intro w0 F0 a w hs
  have key : ∀ m x a w, J x → μ x = m → Sim w0 F0 n (st x) a w → ∀ (b : Frame) (k : List Item) (cs : List Frame),
      ∃ e a' w', (∃ s', Q e s' ∧ Sim w0 F0 n s' a' w') ∧ Arrives P (lone (b.at a (.code body :: .inLoop body :: k)) cs w) b k cs e a' w' := by
    intro m
    induction m using Nat.strongRecOn with
    | _ m ih =>
      intro x a w hx hm hs b k cs
      obtain ⟨e, a₁, w₁, ⟨s₁, hq, hs₁⟩, harr⟩ := round x hx w0 F0 a w hs b (.inLoop body :: k) cs
      cases e with
      | normal =>
        obtain ⟨y, hy, hle, hlt⟩ := hq
        obtain ⟨e₂, a₂, w₂, hq₂, harr₂⟩ := ih (μ y) (hm ▸ hlt) y a₁ w₁ hy rfl (hs₁.weak hle) b k cs
        exact ⟨e₂, a₂, w₂, hq₂, .of_steps (Steps.trans harr (.one step_inLoop)) harr₂⟩
      | exit id => exact ⟨_, a₁, w₁, ⟨s₁, hq, hs₁⟩, .pass (x := .inLoop body) rfl (fun _ _ => .inl (by simp)) harr⟩
      | goto l => exact ⟨_, a₁, w₁, ⟨s₁, hq, hs₁⟩, .pass (x := .inLoop body) rfl (fun _ _ => .inl (by simp)) harr⟩
      | ret => exact ⟨_, a₁, w₁, ⟨s₁, hq, hs₁⟩, .pass (x := .inLoop body) rfl (fun _ _ => .inl (by simp)) harr⟩
      | panic ch => exact ⟨_, a₁, w₁, ⟨s₁, hq, hs₁⟩, .pass (x := .inLoop body) rfl (fun _ _ => .inl (by simp)) harr⟩
      | outgrown => exact ⟨_, a₁, w₁, ⟨s₁, hq, hs₁⟩, .pass (x := .inLoop body) rfl (fun _ _ => .inl (by simp)) harr⟩
  intro b k cs
  obtain ⟨e, a', w', hq, harr⟩ := key _ x0 a w h0 rfl (hs.weak hs0) b k cs
  exact ⟨e, a', w', hq, .of_steps (.one step_loop) harr⟩

theorem codeW_weak {c : Code} {s' : StL} {Q : Exit → StL → Prop} (hl : s'.le s) (h : CodeW P n c s' Q) : CodeW P n c s Q := fun w0 F0 a w hs => h w0 F0 a w (hs.weak hl)

end
end Go.PS
/- PS14: a function's contract out of its body. -/
namespace Go.PS
open Go Go.RowKit

def resOne (P : Program) (s : StL) : ResultVar → Option PV
  | .tmp t => some (getT s.T t)
  | .cell a t => match szT P t, aggT P t with
    | some sz, some ag => loadPV s (getT s.T a) sz ag
    | _, _ => none

def resL (P : Program) (s : StL) : List ResultVar → Option (List PV)
  | [] => some []
  | r :: l => match resOne P s r, resL P s l with
    | some p, some ps => some (p :: ps)
    | _, _ => none

def resPV (P : Program) (s : StL) (l : List ResultVar) : Option PV :=
  match resL P s l with
  | some [p] => some p
  | some ps => some (.tup ps)
  | none => none

def initT : Nat → List TL → List (Nat × PV)
  | _, [] => []
  | i, x :: l => (i, .t .ro x) :: initT (i + 1) l

section
variable {P : Program} {w0 : Base} {F0 : Nat → Prop} {n : Nat} {s : StL} {a : Act} {w : World} {φ : Nat → Value} {fp : Nat → Nat → Prop}

theorem resOne_run (h : SimX w0 F0 n s a w φ fp) {r : ResultVar} {p : PV} (hq : resOne P s r = some p) :
    ∃ v, ((match r with | .tmp t => pure (a.tmps.getD t Go.undef) | .cell a' t => do loadVar t (← asAddr (a.tmps.getD a' Go.undef))) : Sem Value).run P w = .ok v w ∧ PVRep w φ (Stb w0 w fp) p v := by
  cases r with
  | tmp t =>
    simp only [resOne, Option.some.injEq] at hq
    subst hq
    exact ⟨_, rfl, h.tmp t⟩
  | cell a' t =>
    simp only [resOne] at hq
    split at hq
    · rename_i sz ag hs ha
      have hp := h.tmp a'
      obtain ⟨v, hv, hr⟩ := loadPV_run h hs ha hp hq
      refine ⟨v, ?_, hr⟩
      simp only [Instr.loadAt, Sem.run_bind] at hv ⊢
      -- an address it is
      generalize a.tmps.getD a' Go.undef = u at hv hp
      unfold loadPV at hq
      split at hq
      · rename_i heq
        rw [heq] at hp
        cases hp.t_inv
        exact hv
      · rename_i heq
        rw [heq] at hp
        cases hp
        exact hv
      · rename_i heq
        rw [heq] at hp
        cases hp
        exact hv
      · cases hq
    · cases hq

theorem resL_run (h : SimX w0 F0 n s a w φ fp) : ∀ (l : List ResultVar) (ps : List PV), resL P s l = some ps →
    ∃ vs : List Value, (l.mapM (fun r => (match r with | .tmp t => pure (a.tmps.getD t Go.undef) | .cell a' t => do loadVar t (← asAddr (a.tmps.getD a' Go.undef)) : Sem Value))).run P w = .ok vs w ∧ vs.length = ps.length ∧ ∀ (j : Nat) (p : PV), ps[j]? = some p → PVRep w φ (Stb w0 w fp) p (vs.getD j Go.undef)
  | [], ps, hq => by
    simp only [resL, Option.some.injEq] at hq
    subst hq
    exact ⟨[], rfl, rfl, fun j p hp => by simp at hp⟩
  | r :: l, ps, hq => by
    simp only [resL] at hq
    split at hq
    · rename_i p ps' h1 h2
      cases hq
      obtain ⟨v, hv, hr⟩ := resOne_run h h1
      obtain ⟨vs, hvs, hl, hrs⟩ := resL_run h l ps' h2
      refine ⟨v :: vs, ?_, by simp [hl], fun j p hp => ?_⟩
      · rw [List.mapM_cons]
        rw [Sem.run_bind, hv, Result.andThen_ok, Sem.run_bind, hvs]
        rfl
      · cases j with
        | zero => simp at hp; subst hp; simpa using hr
        | succ j => simpa using hrs j p (by simpa using hp)
    · cases hq

theorem resPV_run (h : SimX w0 F0 n s a w φ fp) {fn : Func} {p : PV} (hq : resPV P s fn.results.toList = some p) : ∃ v, (results fn a.tmps).run P w = .ok v w ∧ PVRep w φ (Stb w0 w fp) p v := by
  unfold resPV at hq
  have hres : ∀ ps, resL P s fn.results.toList = some ps → ∃ vs : List Value, (results fn a.tmps).run P w = .ok (if h : vs.toArray.size = 1 then vs.toArray[0] else .tuple vs.toArray) w ∧ vs.length = ps.length ∧ ∀ (j : Nat) (p : PV), ps[j]? = some p → PVRep w φ (Stb w0 w fp) p (vs.getD j Go.undef) := by
    intro ps hps
    obtain ⟨vs, hv, hl, hr⟩ := resL_run h fn.results.toList ps hps
    refine ⟨vs, ?_, hl, hr⟩
    unfold results
    rw [Array.mapM_eq_mapM_toList, Sem.run_bind, Sem.run_map]
    erw [hv]
    rfl
  split at hq
  · rename_i p' hps
    cases hq
    obtain ⟨vs, hv, hl, hr⟩ := hres _ hps
    obtain ⟨v, rfl⟩ : ∃ v, vs = [v] := by
      match vs, hl with
      | [v], _ => exact ⟨v, rfl⟩
    exact ⟨v, by simpa using hv, by simpa using hr 0 p (by simp)⟩
  · rename_i ps hne hps
    cases hq
    obtain ⟨vs, hv, hl, hr⟩ := hres _ hps
    have h1 : ¬ vs.toArray.size = 1 := by
      intro h1
      have : ps.length = 1 := by simpa [hl] using h1
      obtain ⟨q, rfl⟩ := List.length_eq_one_iff.1 this
      exact hne q rfl
    rw [dif_neg h1] at hv
    exact ⟨_, hv, .tup _ (by simpa using hl) fun j x hx => by simpa [Array.getD_eq_getD_getElem?, List.getD_eq_getElem?_getD] using hr j x hx⟩
  · cases hq

theorem initT_get : ∀ (args : List TL) (i t : Nat), getT (initT i args) t = if i ≤ t then match args[t - i]? with | some x => PV.t .ro x | none => .undef else .undef
  | [], i, t => by simp [initT, getT]
  | x :: l, i, t => by
    simp only [initT, getT]
    by_cases e : i = t
    · subst e; simp
    · rw [if_neg e, initT_get l (i + 1) t]
      by_cases h1 : i + 1 ≤ t
      · rw [if_pos h1, if_pos (by omega)]
        have : t - i = (t - (i + 1)) + 1 := by omega
        rw [this, List.getElem?_cons_succ]
      · rw [if_neg h1, if_neg (by omega)]

/-- What a body leaves, for whoever called. -/
def RetP (P : Program) (fn : Func) (s : StL) (r : PV) (Mr : List (Nat × Res)) : Prop :=
  ∃ pv, resPV P s fn.results.toList = some pv ∧
    ((∃ k x, frzT 6 s pv = some (k, x) ∧ r = .t k x ∧ Mr = []) ∨
     (∃ m, pv.nm true m = true ∧ (getM s.M m).nm true m = true ∧ r = pv.ren 0 ∧ Mr = [(0, (getM s.M m).ren 0)]))

theorem pcall_of {f : FuncId} {fn : Func} {c : Code} {args : List TL} {r : PV} {Mr : List (Nat × Res)} (hf : P.funcs[f]? = some fn) (hb : fn.body = some c) (hn : (fn.name == "runtime.NumGoroutine") = false)
    (h : CodeW P (args.length + (fn.ntmps - args.length)) c ⟨initT 0 args, []⟩ (fun e s => (e = .normal ∨ e = .ret) ∧ RetP P fn s r Mr)) : PCall P f args r Mr := by
  refine ⟨⟨fn, c, hf, hb, hn⟩, fun w S vals hS hsz hrep => ?_⟩
  have hsim : Sim (Base.of w S) (fun _ => False) (args.length + (fn.ntmps - args.length)) ⟨initT 0 args, []⟩ { tmps := vals ++ Array.replicate (fn.ntmps - vals.size) Go.undef, defers := [] } w := by
    refine ⟨fun _ => Go.undef, fun _ _ => False, ⟨fun m g hg => hg, fun _ _ _ h1 _ => h1.elim, fun _ _ h1 => h1.elim, fun t => ?_, Evo.refl _ _, by simp [hsz], ⟨rfl, fun _ h => h⟩, fun _ _ => rfl⟩⟩
    show PVRep _ _ _ (getT (initT 0 args) t) _
    rw [initT_get, if_pos (Nat.zero_le _), Nat.sub_zero]
    split
    · rename_i x hx
      have hlt : t < vals.size := by rw [hsz]; exact (List.getElem?_eq_some_iff.1 hx).1
      have e1 : (vals ++ Array.replicate (fn.ntmps - vals.size) Go.undef).getD t Go.undef = vals.getD t Go.undef := by
        simp [Array.getD_eq_getD_getElem?, Array.getElem?_append_left hlt]
      show PVRep _ _ _ _ ((vals ++ Array.replicate (fn.ntmps - vals.size) Go.undef).getD t Go.undef)
      rw [e1]
      exact .t ((hrep t x hx).mono (fun _ _ => rfl) fun g hg => ⟨hS g hg, fun _ h => h, .inr ⟨rfl, hg⟩⟩)
    · exact .undef _
  refine calls_of_wp hf hb (wp_mono (h (Base.of w S) (fun _ => False) _ w hsim) ?_)
  intro e a' w' ⟨s', ⟨he, pv, hpv, hret⟩, φ, fp, hs'⟩
  obtain ⟨v, hv, hpr⟩ := resPV_run hs' hpv
  have fin : ∃ φ' fp', Evo (fun _ => False) w w' ∧ (∀ m, ResRep w' φ' (Stb (Base.of w S) w' fp') (getM Mr m) (φ' m) (fp' m)) ∧ (∀ m m' g, fp' m g → fp' m' g → m = m') ∧
      (∀ m g, fp' m g → w.heap.size ≤ g ∧ g < w'.heap.size) ∧ PVRep w' φ' (Stb (Base.of w S) w' fp') r v := by
    rcases hret with ⟨k, x, hfr, rfl, rfl⟩ | ⟨m, hnm, hnr, rfl, rfl⟩
    · exact ⟨fun _ => Go.undef, fun _ _ => False, hs'.evo, fun m g hg => hg, fun _ _ _ h1 _ => h1.elim, fun _ _ h1 => h1.elim, .t (frzT_rep hs' (fun g h => h) 6 pv k x v hfr hpr)⟩
    · let φ' : Nat → Value := fun q => if q = 0 then φ m else Go.undef
      let fp' : Nat → Nat → Prop := fun q g => q = 0 ∧ fp m g
      have hSS : ∀ k g, Stb (Base.of w S) w' fp k g → Stb (Base.of w S) w' fp' k g := fun k g hg => ⟨hg.1, fun q hq => hg.2.1 m hq.2, hg.2.2⟩
      refine ⟨φ', fp', hs'.evo, fun q => ?_, fun q q' g h1 h2 => by rw [h1.1, h2.1], fun q g hq => ?_, ?_⟩
      · simp only [getM]
        by_cases e : 0 = q
        · subst e
          rw [if_pos rfl]
          have e1 : fp' 0 = fp m := by funext g; simp [fp']
          have e2 : φ' 0 = φ m := by simp [φ']
          rw [e1, e2]
          exact (hs'.res m).take (lent := false) (z := m) (fun g hg => hSS _ g hg) (fun _ g hg => hSS _ g hg) (by simp [φ']) (by simp) hnr
        · rw [if_neg e]
          intro g hg
          exact e hg.1.symm
      · have := hs'.old m g hq.2
        exact ⟨this.2.resolve_left (fun h => h), this.1⟩
      · exact hpr.take (lent := false) (own := true) (z := m) (fun g hg => hSS _ g hg) (fun _ g hg => hSS _ g hg) (fun _ => by simp [φ']) (by simp) hnm
  obtain ⟨φ', fp', h1, h2, h3, h4, h5⟩ := fin
  rcases he with rfl | rfl
  · exact ⟨hs'.dfr.1, v, hv, v, φ', fp', rfl, h1, h2, h3, h4, h5⟩
  · exact ⟨hs'.dfr.1, v, hv, v, φ', fp', rfl, h1, h2, h3, h4, h5⟩

end
end Go.PS
/- PS15: bounds that every argument keeps; small words for trees. -/
namespace Go.PS
open Go Go.RowKit

/-- A list among the arguments has a length that memory bears. -/
theorem pcall_sl {P : Program} {f : FuncId} {args : List TL} {r : PV} {Mr : List (Nat × Res)} (i : Nat) {t : SF} {sz : Nat} {xs : List (List TL)} (ha : args[i]? = some (.sl t sz xs)) (hc : Callable P f)
    (h : xs.length ≤ 140737488355328 → PCall P f args r Mr) : PCall P f args r Mr := by
  refine ⟨hc, fun w S vals hS hs hr => ?_⟩
  have := hr i _ ha
  generalize vals.getD i Go.undef = u at this
  have hb : xs.length ≤ 140737488355328 := by
    cases this with
    | sl g hcap ht hnn hnil hbd => exact hbd
  exact (h hb).2 w S vals hS hs hr

theorem pcall_agg {P : Program} {f : FuncId} {args : List TL} {r : PV} {Mr : List (Nat × Res)} (i j : Nat) {cs : List TL} {t : SF} {sz : Nat} {xs : List (List TL)} (ha : args[i]? = some (.agg cs)) (hj : cs[j]? = some (.sl t sz xs)) (hc : Callable P f)
    (h : xs.length ≤ 140737488355328 → PCall P f args r Mr) : PCall P f args r Mr := by
  refine ⟨hc, fun w S vals hS hs hr => ?_⟩
  have := hr i _ ha
  generalize vals.getD i Go.undef = u at this
  have hb : xs.length ≤ 140737488355328 := by
    cases this with
    | agg vs hs hrep =>
      have := hrep j _ hj
      generalize vs.getD j Go.undef = u at this
      cases this with
      | sl g hcap ht hnn hnil hbd => exact hbd
  exact (h hb).2 w S vals hS hs hr

theorem callable_of {P : Program} {f : FuncId} {fn : Func} {c : Code} (hf : P.funcs[f]? = some fn) (hb : fn.body = some c) (hn : (fn.name == "runtime.NumGoroutine") = false) : Callable P f := ⟨fn, c, hf, hb, hn⟩

abbrev eI (n : Int) : TL := .v (.int .i64 n)
abbrev eB (b : Bool) : TL := .v (.bool b)
def cI (n : Int) : List TL := [eI n]
def eIs (xs : List Int) : TL := .sl .any 1 (xs.map cI)
abbrev pI (n : Int) : PV := .t .fz (.v (.int .i64 n))
abbrev pB (b : Bool) : PV := .t .fz (.v (.bool b))

theorem getD_map {α : Type} [Inhabited α] (f : α → List TL) (xs : List α) (i : Nat) (h : i < xs.length) : (xs.map f).getD i [] = f (xs.getD i default) := by
  simp [List.getD_eq_getElem?_getD, h]

theorem wrap_id {n : Int} (h0 : -9223372036854775808 ≤ n) (h1 : n ≤ 9223372036854775807) : IntKind.i64.wrap n = n := by
  rw [IntKind.wrap_i64]; omega

end Go.PS
/- PS16: the rules by which a body is walked. -/
namespace Go.PS
open Go Go.RowKit

section
variable {P : Program} {n : Nat} {s : StL}

theorem ev_tmp (t : Nat) : ev s (.tmp t) = getT s.T t := rfl
theorem ev_int (k : IntKind) (i : Int) : ev s (.const (.int k i)) = .t .fz (.v (.int k i)) := rfl
theorem ev_bool (b : Bool) : ev s (.const (.bool b)) = .t .fz (.v (.bool b)) := rfl
theorem ev_str (b : ByteArray) : ev s (.const (.string b)) = .t .fz (.v (.string b)) := rfl
theorem ev_sl (a : Option Addr) (l c : Nat) : ev s (.const (.slice a l c)) = .t .fz (.v (.slice a l c)) := rfl
theorem ev_map (r : Option Nat) : ev s (.const (.map r)) = .t .fz (.v (.map r)) := rfl
theorem ev_ptr (r : Option Addr) : ev s (.const (.pointer r)) = .t .fz (.v (.pointer r)) := rfl
theorem ev_nilFunc : ev s (.const .nilFunc) = .t .fz (.v .nilFunc) := rfl
theorem ev_nilIface : ev s (.const .nilIface) = .t .fz (.v .nilIface) := rfl
theorem ev_agg (vs : Array Value) : ev s (.const (.agg vs)) = .t .fz (.agg (vs.toList.map .v)) := rfl
theorem ev_func (f : FuncId) : ev s (.func f) = .clo f [] := rfl
theorem getT_hit (k : Nat) (p : PV) (l : List (Nat × PV)) : getT ((k, p) :: l) k = p := by simp [getT]
theorem getT_miss {k t : Nat} (p : PV) (l : List (Nat × PV)) (h : (k == t) = false) : getT ((k, p) :: l) t = getT l t := by
  simp only [getT]; rw [if_neg (by simpa using h)]
theorem getM_hit (k : Nat) (p : Res) (l : List (Nat × Res)) : getM ((k, p) :: l) k = p := by simp [getM]
theorem getM_miss {k t : Nat} (p : Res) (l : List (Nat × Res)) (h : (k == t) = false) : getM ((k, p) :: l) t = getM l t := by
  simp only [getM]; rw [if_neg (by simpa using h)]

/-- One operation that changes nothing but its own temporary; what it gives is looked up at once. -/
theorem runW_cons {ops : Array Oper} {o : Oper} {rest : List Oper} {K : StL → Prop} : RunW P n ops (o :: rest) s K = match wantPV ops s o with
    | some true => OpW P n o.dst s o.op fun s' => RunW P n ops rest s' K
    | some false => (∀ d, o.dst = some d → d < n) ∧ RunW P n ops rest (skipS s o.dst) K
    | none => False := rfl

def ThenC (P : Program) (n : Nat) (y : Code) (Q : Exit → StL → Prop) (e : Exit) (s : StL) : Prop :=
  match e with
  | .normal => CodeW P n y s Q
  | e => Q e s

theorem cw_seq {x y : Code} {Q : Exit → StL → Prop} (h : ∀ y', y' = y → CodeW P n x s (ThenC P n y' Q)) : CodeW P n (x.seq y) s Q :=
  codeW_seq fun K hK => (h y rfl).mono fun e s' hq => by
    cases e with
    | normal => exact hK s' hq
    | exit id => exact hq
    | goto l => exact hq
    | ret => exact hq
    | panic ch => exact hq
    | outgrown => exact hq

theorem cw_reg {id : Nat} {ops : Array Oper} {Q : Exit → StL → Prop} (h : ∀ K : StL → Prop, (∀ s', Q .normal s' → K s') → RunW P n ops ops.toList s K) : CodeW P n (.region id ops false) s Q := codeW_region h

/-- What a round leaves. -/
def LoopP {ι : Type} (st : ι → StL) (J : ι → Prop) (μ : ι → Nat) (x : ι) (Q : Exit → StL → Prop) (e : Exit) (s' : StL) : Prop :=
  match e with
  | .normal => ∃ y, J y ∧ (st y).le s' ∧ μ y < μ x
  | e => Q e s'

theorem cw_loop {ι : Type} {body : Code} {Q : Exit → StL → Prop} (st : ι → StL) (J : ι → Prop) (μ : ι → Nat) (x0 : ι) (h0 : J x0) (hs0 : (st x0).le s)
    (round : ∀ x, J x → CodeW P n body (st x) (LoopP st J μ x Q)) : CodeW P n (.loop body) s Q :=
  codeW_loop st J μ x0 h0 hs0 fun x hx => (round x hx).mono fun e s' hq => by
    cases e with
    | normal => exact hq
    | exit id => exact hq
    | goto l => exact hq
    | ret => exact hq
    | panic ch => exact hq
    | outgrown => exact hq

theorem le_of {T T' : List (Nat × PV)} {M M' : List (Nat × Res)} (hT : ∀ p ∈ T', getT T p.1 = p.2 ∨ p.2 = .undef) (hM : ∀ p ∈ M', getM M p.1 = p.2 ∨ p.2 = .dead) : StL.le ⟨T', M'⟩ ⟨T, M⟩ := by
  refine ⟨fun t => ?_, fun m => ?_⟩
  · show getT T' t = getT T t ∨ _
    induction T' with
    | nil => exact .inr rfl
    | cons p l ih =>
      obtain ⟨k, q⟩ := p
      simp only [getT]
      by_cases e : k = t
      · subst e
        rw [if_pos rfl]
        have := hT (k, q) (by simp)
        simp only at this
        exact this.imp (fun h => h.symm) id
      · rw [if_neg e]
        exact ih fun p hp => hT p (List.mem_cons_of_mem _ hp)
  · show getM M' m = getM M m ∨ _
    induction M' with
    | nil => exact .inr rfl
    | cons p l ih =>
      obtain ⟨k, q⟩ := p
      simp only [getM]
      by_cases e : k = m
      · subst e
        rw [if_pos rfl]
        have := hM (k, q) (by simp)
        simp only at this
        exact this.imp (fun h => h.symm) id
      · rw [if_neg e]
        exact ih fun p hp => hM p (List.mem_cons_of_mem _ hp)

theorem retP_frz {fn : Func} {pv : PV} {k : Kind} {x : TL} (h1 : resPV P s fn.results.toList = some pv) (h2 : frzT 6 s pv = some (k, x)) : RetP P fn s (.t k x) [] := ⟨pv, h1, .inl ⟨k, x, h2, rfl, rfl⟩⟩

end
end Go.PS
/- PS17: an operation looks at few temporaries only, and more memory tells it nothing else. -/
namespace Go.PS
open Go Go.RowKit

/-- append(x, y) that makes a new row. -/
def appVal (P : Program) (s : StL) (t : Nat) (x y : PV) : Option Res :=
  match elT P t with
  | none => none
  | some e => match szT P e, zT P e, byT P e with
    | some sz, some z, some b =>
      if 0 < sz ∧ 0 < b ∧ z.length = sz then
        match srcPV s sz y with
        | none => none
        | some (k, ys) =>
          match x with
          | .t _ (.v (.slice none 0 0)) => if ys.length * b ≤ 140737488355328 then some (.row e sz k ys) else none
          | .t k' (.sl .tight sz' []) => if sz' = sz ∧ ys.length * b ≤ 140737488355328 then some (.row e sz k ys) else none
          | .t k' (.sl .tight sz' xs) => if sz' = sz ∧ ys.isEmpty = false ∧ (xs.length + ys.length) * b ≤ 140737488355328 ∧ xs.all (fun e => e.all TL.leaf) = true then some (.row e sz (k'.join k) (xs ++ ys)) else none
          | _ => none
      else none
    | _, _, _ => none
theorem appVal_new {P : Program} {s : StL} {t d : Nat} {x y : PV} {r : Res} (h : appVal P s t x y = some r) (hf : s.free d = true) : appendPV P d s t x y = some ⟨(d, .osl d) :: s.T, (d, r) :: s.M⟩ := by
  unfold appVal at h
  unfold appendPV
  split at h
  · cases h
  · rename_i e he
    rw [he]
    simp only
    split at h
    · rename_i sz z b hsz hz hb
      rw [hsz, hz, hb]
      simp only
      split at h
      · rename_i hc
        rw [if_pos hc]
        split at h
        · cases h
        · rename_i k ys hs
          rw [hs]
          simp only
          split at h
          · split at h
            · rename_i h1
              cases h
              simp only [hf, h1, and_self, if_true]
            · cases h
          · split at h
            · rename_i h1
              cases h
              obtain ⟨rfl, e2⟩ := h1
              simp only [hf, e2, and_self, if_true]
            · cases h
          · rename_i k' sz' xs hne
            split at h
            · rename_i h1
              cases h
              obtain ⟨rfl, e2, e3, e4⟩ := h1
              cases xs with
              | nil => exact (hne rfl).elim
              | cons x xs =>
                simp only [hf, e2, e3, e4, and_self, if_true]
            · cases h
          · cases h
      · cases h
    · cases h

def newVal (P : Program) (s : StL) : Op → Option (Bool × Res)
  | .box t x => match cellsPV (ev s x) with
    | some cs => some (true, .blk t cs)
    | none => none
  | .alloc t => match zT P t with
    | some z => some (true, .blk t (z.map fun c => PV.t .fz (.v c)))
    | none => none
  | .buildSlice t len parts => match elT P t with
    | some e => match szT P e, zT P e with
      | some sz, some z => if z.length = sz ∧ len = parts.size ∧ len * sz ≤ 16777216 ∧ 0 < sz then
          match rowPV s sz 0 parts.toList with
          | some (k, xs) => some (false, .row e sz k xs)
          | none => none
        else none
      | _, _ => none
    | none => none
  | .makeSlice t l c => match elT P t, ev s l, ev s c with
    | some e, .t _ (.v (.int _ l)), .t _ (.v (.int _ c)) => match szT P e, zT P e, byT P e with
      | some sz, some z, some b => if z.length = sz ∧ 0 < sz ∧ 0 ≤ l ∧ l ≤ c ∧ c ≤ 140737488355328 ∧ (b : Int) * c ≤ 281474976710656 then
          some (false, .row e sz .fz (List.replicate l.toNat (z.map TL.v))) else none
      | _, _, _ => none
    | _, _, _ => none
  | .call c => match c.callee, c.args.toList, c.argTypes.toList with
    | .builtin .append, [x, y], [t, t'] => if t = t' then (appVal P s t (ev s x) (ev s y)).map fun r => (false, r) else none
    | _, _, _ => none
  | _ => none

theorem newVal_new {P : Program} {s : StL} {op : Op} {b : Bool} {r : Res} {d : Nat} (h : newVal P s op = some (b, r)) (hf : s.free d = true) :
    newOp P d s op = some ⟨(d, if b then .ptr d 0 else .osl d) :: s.T, (d, r) :: s.M⟩ := by
  cases op <;> simp only [newVal, reduceCtorEq] at h
  case box t x =>
    split at h
    · rename_i cs hcs
      cases h
      simp only [newOp, hcs, hf, if_true]
    · cases h
  case alloc t =>
    split at h
    · rename_i z hz
      cases h
      simp only [newOp, hz, hf, if_true]
    · cases h
  case buildSlice t len parts =>
    split at h
    · rename_i e he
      split at h
      · rename_i sz z hsz hz
        split at h
        · rename_i hc
          split at h
          · rename_i k xs hr
            cases h
            simp only [newOp, he, hsz, hz, hr]
            rw [if_pos ⟨hf, hc⟩]
            rfl
          · cases h
        · cases h
      · cases h
    · cases h
  case makeSlice t l c =>
    split at h
    · rename_i e k1 kk1 l' k2 kk2 c' he hl hc
      split at h
      · rename_i sz z b hsz hz hb
        split at h
        · rename_i hcond
          cases h
          simp only [newOp, he, hl, hc, hsz, hz, hb]
          rw [if_pos ⟨hf, hcond⟩]
          rfl
        · cases h
      · cases h
    · cases h
  case call c =>
    split at h
    · rename_i x y t t' h1 h2 h3
      split at h
      · rename_i htt
        obtain ⟨r', hr, e⟩ := Option.map_eq_some_iff.1 h
        cases e
        simp only [newOp, h1, h2, h3, if_pos htt]
        rw [appVal_new hr hf]
        rfl
      · cases h
    · cases h

/-- s' knows all memory that s knows. -/
def MLe (s s' : StL) : Prop := ∀ m, getM s.M m = .dead ∨ getM s'.M m = getM s.M m

section
variable {P : Program} {s s' : StL}

theorem MLe.at_ (h : MLe s s') {m : Nat} {r : Res} (hr : getM s.M m = r) (hd : r ≠ .dead) : getM s'.M m = r := by
  rcases h m with h1 | h1
  · exact absurd (hr.symm.trans h1) hd
  · exact h1.trans hr

theorem loadPV_mono (h : MLe s s') {p q : PV} {sz : Nat} {ag : Bool} (hq : loadPV s p sz ag = some q) : loadPV s' p sz ag = some q := by
  unfold loadPV at hq ⊢
  split at hq
  · exact hq
  · split at hq
    · rename_i hM
      rw [h.at_ hM (by simp)]
      exact hq
    · cases hq
  · split at hq
    · rename_i hM
      rw [h.at_ hM (by simp)]
      exact hq
    · cases hq
  · cases hq

theorem idxPV_mono (h : MLe s s') {t : Nat} {p q : PV} {i : Int} (hq : idxPV P s t p i = some q) : idxPV P s' t p i = some q := by
  unfold idxPV at hq ⊢
  split at hq
  · exact hq
  · split at hq
    · rename_i hM
      rw [h.at_ hM (by simp)]
      exact hq
    · cases hq
  · exact hq

theorem lenPV_mono (h : MLe s s') {p : PV} {n : Nat} (hq : lenPV s p = some n) : lenPV s' p = some n := by
  unfold lenPV at hq ⊢
  split at hq
  · exact hq
  · exact hq
  · split at hq
    · rename_i hM
      rw [h.at_ hM (by simp)]
      exact hq
    · cases hq
  · exact hq
  · cases hq

theorem optL_mono {f g : PV → Option (Bool × TL)} (h : ∀ p x, f p = some x → g p = some x) : ∀ {l : List PV} {x : Bool × List TL}, optL f l = some x → optL g l = some x
  | [], x, hx => hx
  | p :: l, x, hx => by
    simp only [optL] at hx ⊢
    split at hx
    · rename_i b y b' ys h1 h2
      rw [h p _ h1, optL_mono h h2]
      exact hx
    · cases hx

theorem lendPV_mono (h : MLe s s') : ∀ (d : Nat) {p : PV} {x : Bool × TL}, lendPV d s p = some x → lendPV d s' p = some x
  | 0, p, x, hx => by simp [lendPV] at hx
  | d + 1, p, x, hx => by
    cases p with
    | t k y => simpa [lendPV] using hx
    | osl m =>
      simp only [lendPV] at hx ⊢
      split at hx
      · rename_i hM
        rw [h.at_ hM (by simp)]
        exact hx
      · cases hx
    | ptr m off =>
      simp only [lendPV] at hx ⊢
      split at hx
      · rename_i hM
        rw [h.at_ hM (by simp)]
        simp only
        split at hx
        · rename_i h1
          rw [optL_mono (fun p x => lendPV_mono h d) h1]
          exact hx
        · cases hx
      · cases hx
    | clo f caps =>
      simp only [lendPV] at hx ⊢
      split at hx
      · rename_i h1
        rw [optL_mono (fun p x => lendPV_mono h d) h1]
        exact hx
      · cases hx
    | agg cs =>
      simp only [lendPV] at hx ⊢
      split at hx
      · rename_i h1
        rw [optL_mono (fun p x => lendPV_mono h d) h1]
        exact hx
      · cases hx
    | oep => simp [lendPV] at hx
    | omp => simp [lendPV] at hx
    | osv => simp [lendPV] at hx
    | tup => simp [lendPV] at hx
    | undef => simp [lendPV] at hx

/-- Operands alike. -/
def OpdEq (s s' : StL) (l : List Operand) : Prop := ∀ x ∈ l, ev s' x = ev s x

theorem OpdEq.map {l : List Operand} (h : OpdEq s s' l) : l.map (ev s') = l.map (ev s) := List.map_congr_left h

theorem bndPV_mono {x : Option Operand} {d : Nat} (h : OpdEq s s' x.toList) : bndPV s' x d = bndPV s x d := by
  cases x with
  | none => rfl
  | some x => simp only [bndPV, h x (by simp)]

theorem slicePV_mono (h : MLe s s') {t : Nat} {p q : PV} {lo hi mx : Option Operand} (hl : OpdEq s s' lo.toList) (hh : OpdEq s s' hi.toList) (hm : OpdEq s s' mx.toList) (hq : slicePV P s t p lo hi mx = some q) : slicePV P s' t p lo hi mx = some q := by
  unfold slicePV at hq ⊢
  split at hq
  · simp only [bndPV_mono hl, bndPV_mono hh, bndPV_mono hm]
    exact hq
  · simp only [bndPV_mono hh]
    exact hq
  · rename_i m
    split at hq
    · rename_i ty sz k xs hM
      simp only [h.at_ hM (by intro e; cases e), bndPV_mono hl, bndPV_mono hh]
      exact hq
    · cases hq
  · cases hq

theorem partsPV_mono {t : Nat} : ∀ {l : List (Nat × Operand)}, OpdEq s s' (l.map (·.2)) → partsPV P s' t l = partsPV P s t l
  | [], _ => rfl
  | (i, x) :: l, h => by
    simp only [partsPV, h x (by simp), partsPV_mono (l := l) fun y hy => h y (by simp only [List.map_cons, List.mem_cons]; exact .inr hy)]

theorem rowPV_mono {sz : Nat} : ∀ {l : List (Nat × Operand)} {j : Nat}, OpdEq s s' (l.map (·.2)) → rowPV s' sz j l = rowPV s sz j l
  | [], _, _ => rfl
  | (i, x) :: l, j, h => by
    simp only [rowPV, h x (by simp), rowPV_mono (l := l) fun y hy => h y (by simp only [List.map_cons, List.mem_cons]; exact .inr hy)]

theorem builtinVal_mono (h : MLe s s') {b : Builtin} {args : List PV} {ts : Array Nat} {q : PV} (hq : builtinVal P s b args ts = some q) : builtinVal P s' b args ts = some q := by
  unfold builtinVal at hq ⊢
  split at hq
  · cases hts : ts[0]? with
    | none => simp [hts] at hq
    | some t =>
      simp only [hts] at hq ⊢
      split at hq
      · rename_i hc
        obtain ⟨m, hm, rfl⟩ := Option.map_eq_some_iff.1 hq
        rw [if_pos hc, lenPV_mono h hm]
        rfl
      · cases hq
  · exact hq
  · exact hq
  · cases hq

theorem lookPV_mono (h : MLe s s') {t : Nat} {x key q : PV} {ok : Bool} (hq : lookPV P s t x key ok = some q) : lookPV P s' t x key ok = some q := by
  unfold lookPV at hq ⊢
  split at hq
  · split at hq
    · split at hq
      · rename_i hk
        rw [if_pos hk]
        split at hq
        · rename_i m
          split at hq
          · rename_i k es hM
            simp only [h.at_ hM (by intro e; cases e)]
            exact hq
          · cases hq
        · exact hq
        · cases hq
      · cases hq
    · cases hq
  · cases hq
theorem entPV_mono (h : MLe s s') {x q : PV} (hq : entPV s x = some q) : entPV s' x = some q := by
  unfold entPV at hq ⊢
  split at hq
  · rename_i m
    split at hq
    · rename_i mn nn i rest hM
      simp only [h.at_ hM (by intro e; cases e)]
      split at hq
      · rename_i k es hMn
        simp only [h.at_ hMn (by intro e; cases e)]
        exact hq
      · cases hq
    · cases hq
  · cases hq
theorem opVal_mono (h : MLe s s') {op : Op} {q : PV} (ho : OpdEq s s' op.operands.toList) (hq : opVal P s op = some q) : opVal P s' op = some q := by
  cases op <;> simp only [opVal, reduceCtorEq] at hq ⊢
  case move x => rw [ho x (by simp [Op.operands])]; exact hq
  case assign x => rw [ho x (by simp [Op.operands])]; exact hq
  case pick c x y => rw [ho c (by simp [Op.operands]), ho x (by simp [Op.operands]), ho y (by simp [Op.operands])]; exact hq
  case binOp op t x y t' => rw [ho x (by simp [Op.operands]), ho y (by simp [Op.operands])]; exact hq
  case unOp op t x => rw [ho x (by simp [Op.operands])]; exact hq
  case convert src dst x => rw [ho x (by simp [Op.operands])]; exact hq
  case nilCheck x => rw [ho x (by simp [Op.operands])]; exact hq
  case fieldAddr t x f => rw [ho x (by simp [Op.operands])]; exact hq
  case indexAddr t x i =>
    rw [ho x (by simp [Op.operands]), ho i (by simp [Op.operands])]
    split at hq
    · exact idxPV_mono h hq
    · cases hq
  case load t x =>
    rw [ho x (by simp [Op.operands])]
    split at hq
    · exact loadPV_mono h hq
    · cases hq
  case extract x i => rw [ho x (by simp [Op.operands])]; exact hq
  case field t x f => rw [ho x (by simp [Op.operands])]; exact hq
  case index t x i => rw [ho x (by simp [Op.operands]), ho i (by simp [Op.operands])]; exact hq
  case makeFunc fn first caps =>
    cases fn <;> simp only [reduceCtorEq] at hq ⊢
    rw [OpdEq.map fun x hx => ho x (by simp only [Op.operands, Array.toList_append, List.mem_append]; exact .inr hx)]
    exact hq
  case slice t x lo hi mx =>
    rw [ho x (by simp [Op.operands])]
    split at hq
    · cases hq
    · rename_i hc
      rw [if_neg hc]
      exact slicePV_mono h (fun y hy => ho y (by simp only [Op.operands, Array.toList_append, List.mem_append]; simp at hy; simp [hy])) (fun y hy => ho y (by simp only [Op.operands, Array.toList_append, List.mem_append]; simp at hy; simp [hy])) (fun y hy => ho y (by simp only [Op.operands, Array.toList_append, List.mem_append]; simp at hy; simp [hy])) hq
  case call c =>
    split at hq
    · rename_i b hb
      rw [OpdEq.map fun x hx => ho x (by simp only [Op.operands, Call.operands, Array.toList_append, List.mem_append]; exact .inr hx)]
      exact builtinVal_mono h hq
    · cases hq
  case lookup t x i ok =>
    rw [ho x (by simp [Op.operands]), ho i (by simp [Op.operands])]
    exact lookPV_mono h hq
  case entry x =>
    rw [ho x (by simp [Op.operands])]
    exact entPV_mono h hq

theorem valOp_mono (h : MLe s s') {op : Op} {q : PV} (ho : OpdEq s s' op.operands.toList) (hq : valOp P s op = some q) : valOp P s' op = some q := by
  unfold valOp at hq ⊢
  split at hq
  · rename_i t parts
    split at hq
    · rename_i hok
      simp only [hok, if_true]
      unfold buildPV at hq ⊢
      rw [partsPV_mono fun x hx => ho x (by simpa [Op.operands] using hx)]
      exact hq
    · cases hq
  · rename_i op t x y ty
    split at hq
    · rename_i q' hq'
      cases hq
      simp only [opVal_mono h ho hq']
    · rename_i hn
      have hx := ho x (by simp [Op.operands])
      have hy := ho y (by simp [Op.operands])
      have hn' : opVal P s' (.binOp op t x y ty) = none := by
        simp only [opVal, hx, hy] at hn ⊢
        exact hn
      simp only [hn', hx, hy]
      exact hq
  · rename_i h1 h2
    have := opVal_mono h ho hq
    revert this
    cases op <;> first | exact id | (intro _; first | exact absurd rfl (h1 _ _) | exact absurd rfl (h2 _ _ _ _ _))

theorem srcPV_mono (h : MLe s s') {sz : Nat} {p : PV} {q : Kind × List (List TL)} (hq : srcPV s sz p = some q) : srcPV s' sz p = some q := by
  unfold srcPV at hq ⊢
  split at hq
  · exact hq
  · exact hq
  · rename_i m
    split at hq
    · rename_i ty sz' k ys hr
      simp only [h.at_ hr (by intro e; cases e)]
      exact hq
    · cases hq
  · rename_i m sz'' lo len
    split at hq
    · rename_i ty sz' k ys hr
      simp only [h.at_ hr (by intro e; cases e)]
      exact hq
    · cases hq
  · cases hq
theorem appVal_mono (h : MLe s s') {t : Nat} {x y : PV} {r : Res} (hq : appVal P s t x y = some r) : appVal P s' t x y = some r := by
  unfold appVal at hq ⊢
  split at hq
  · cases hq
  · split at hq
    · split at hq
      · rename_i hc
        rw [if_pos hc]
        split at hq
        · cases hq
        · rename_i k ys hs
          rw [srcPV_mono h hs]
          exact hq
      · cases hq
    · cases hq
theorem newVal_mono (hM : MLe s s') {op : Op} {r : Bool × Res} (ho : OpdEq s s' op.operands.toList) (h : newVal P s op = some r) : newVal P s' op = some r := by
  cases op <;> simp only [newVal] at h ⊢
  case box t x => rw [ho x (by simp [Op.operands])]; exact h
  case alloc t => exact h
  case buildSlice t len parts =>
    have : ∀ sz, rowPV s' sz 0 parts.toList = rowPV s sz 0 parts.toList := fun sz => rowPV_mono fun x hx => ho x (by simpa [Op.operands] using hx)
    simp only [this]
    exact h
  case makeSlice t l c => rw [ho l (by simp [Op.operands]), ho c (by simp [Op.operands])]; exact h
  case call c =>
    split at h
    · rename_i x y t t' h1 h2 h3
      have hmem : ∀ z ∈ c.args.toList, ev s' z = ev s z := fun z hz => ho z (by simp only [Op.operands, Call.operands, Array.toList_append, List.mem_append]; exact .inr hz)
      rw [hmem x (by rw [h2]; simp), hmem y (by rw [h2]; simp)]
      split at h
      · rename_i htt
        rw [if_pos htt]
        obtain ⟨r', hr, e⟩ := Option.map_eq_some_iff.1 h
        rw [appVal_mono hM hr]
        simpa using e
      · cases h
    · cases h
  all_goals cases h

theorem callee_mono {c : Call} (ho : OpdEq s s' c.operands.toList) : callee s' c = callee s c := by
  have ha : c.args.toList.map (ev s') = c.args.toList.map (ev s) := OpdEq.map fun x hx => ho x (by simp only [Call.operands, Array.toList_append, List.mem_append]; exact .inr hx)
  unfold callee
  split
  · rename_i f hf
    rw [ho f (by simp [Call.operands, hf]), ha]
  · rfl

end
end Go.PS
/- PS18: a region that draws its order is run in the order of the text. -/
namespace Go.PS
open Go Go.RowKit

def ValW (P : Program) (s : StL) (d : Nat) (op : Op) (K : PV → Option Res → Prop) : Prop :=
  match valOp P s op with
  | some q => K q none
  | none => match newVal P s op with
    | some (b, r) => K (if b then .ptr d 0 else .osl d) (some r)
    | none => False

def CallE (P : Program) (s : StL) (d : Nat) (f : FuncId) (pvs : List PV) (K : PV → Option Res → Prop) : Prop :=
  match optL (lendPV 5 s) pvs with
  | none => False
  | some (b, tls) => ∃ r Mr, PCall P f tls r Mr ∧ (b = true → r.noRo = true ∧ Mr.all (fun p => p.2.noRo) = true) ∧ match Mr with
    | [] => r.nm false 0 = true ∧ K (r.ren d) none
    | [(0, res)] => (r.nm true 0 = true ∧ res.nm true 0 = true) ∧ K (r.ren d) (some (res.ren d))
    | _ => False

def EffW (P : Program) (ops : Array Oper) (o : Oper) (d : Nat) (s : StL) (K : PV → Option Res → Prop) : Prop :=
  match wantPV ops s o with
  | some true => match o.op with
    | .call c => match callee s c with
      | some (f, pvs) => CallE P s d f pvs K
      | none => ValW P s d (.call c) K
    | op => ValW P s d op K
  | some false => K skipPV none
  | none => False

def app1 (d : Nat) (q : PV) (r : Option Res) (s : StL) : StL := ⟨(d, q) :: s.T, match r with | some r => (d, r) :: s.M | none => s.M⟩

def DrawW (P : Program) (n : Nat) (ops : Array Oper) (m : Nat) (As : List Nat) : Nat → List Oper → StL → (StL → Prop) → Prop
  | _, [], s, K => K s
  | i, o :: rest, s, K => if i < m then match o.dst with
      | none => False
      | some d => d < n ∧ EffW P ops o d s fun q res => (res.isSome = true → As.contains i = true ∧ s.free d = true) ∧ DrawW P n ops m As (i + 1) rest (app1 d q res s) K
    else RunW P n ops (o :: rest) s K

section
variable {P : Program} {n : Nat} {ops : Array Oper}

theorem ValW.pick {s : StL} {d : Nat} {op : Op} {K : PV → Option Res → Prop} (h : ValW P s d op K) : ∃ q r, K q r ∧ ValW P s d op (fun q' r' => q' = q ∧ r' = r) := by
  unfold ValW at h ⊢
  split at h
  · exact ⟨_, _, h, rfl, rfl⟩
  · split at h
    · exact ⟨_, _, h, rfl, rfl⟩
    · exact h.elim

theorem CallE.pick {s : StL} {d : Nat} {f : FuncId} {pvs : List PV} {K : PV → Option Res → Prop} (h : CallE P s d f pvs K) : ∃ q r, K q r ∧ CallE P s d f pvs (fun q' r' => q' = q ∧ r' = r) := by
  unfold CallE at h ⊢
  split at h
  · exact h.elim
  · obtain ⟨r, Mr, h1, h2, h3⟩ := h
    split at h3
    · exact ⟨_, _, h3.2, r, [], h1, h2, h3.1, rfl, rfl⟩
    · exact ⟨_, _, h3.2, r, [(0, _)], h1, h2, h3.1, rfl, rfl⟩
    · exact h3.elim

theorem EffW.pick {o : Oper} {s : StL} {d : Nat} {K : PV → Option Res → Prop} (h : EffW P ops o d s K) : ∃ q r, K q r ∧ EffW P ops o d s (fun q' r' => q' = q ∧ r' = r) := by
  unfold EffW at h ⊢
  split at h
  · split at h
    · split at h
      · exact h.pick
      · exact h.pick
    · exact h.pick
  · exact ⟨_, _, h, rfl, rfl⟩
  · exact h.elim

/-- What makes memory is no plain value. -/
theorem newVal_noVal {s s' : StL} {op : Op} (h : newVal P s op ≠ none) : valOp P s' op = none := by
  cases op
  case call c =>
    simp only [newVal] at h
    split at h
    · rename_i x y t t' h1 h2 h3
      show opVal P s' (.call c) = none
      simp only [opVal, h1, h2, builtinVal]
    · exact absurd rfl h
  all_goals first | exact absurd rfl h | rfl

theorem ValW.move' {s s' : StL} {d : Nat} {op : Op} {K : PV → Option Res → Prop} (hM : MLe s s') (ho : OpdEq s s' op.operands.toList) (h : ValW P s d op K) : ValW P s' d op K := by
  unfold ValW at h ⊢
  split at h
  · rename_i q hq
    rw [valOp_mono hM ho hq]
    exact h
  · rename_i hq
    split at h
    · rename_i b r hn
      rw [newVal_noVal (s := s) (s' := s') (by rw [hn]; intro e; cases e), newVal_mono hM ho hn]
      exact h
    · exact h.elim

theorem wantPV_congr {s s' : StL} {o : Oper} (h : ∀ t ∈ o.looksAt ops, getT s'.T t = getT s.T t) : wantPV ops s' o = wantPV ops s o := by
  unfold wantPV
  split
  · rfl
  · rename_i j b hg
    have : gdPV ops s' j = gdPV ops s j := by
      unfold gdPV
      split
      · rename_i d hd
        rw [h d (by simp only [Oper.looksAt, hg, List.mem_append]; right; rw [hd]; simp)]
      · rfl
    rw [this]

theorem opdEq_of {s s' : StL} {o : Oper} (h : ∀ t ∈ o.looksAt ops, getT s'.T t = getT s.T t) : OpdEq s s' o.op.operands.toList := by
  intro x hx
  cases x with
  | tmp t => exact h t (by simp only [Oper.looksAt, List.mem_append]; left; exact List.mem_filterMap.2 ⟨.tmp t, hx, rfl⟩)
  | const v => cases v <;> rfl
  | func f => rfl
  | global g => rfl

theorem CallE.move {s s' : StL} {d : Nat} {f : FuncId} {pvs : List PV} {K : PV → Option Res → Prop} (hM : MLe s s') (h : CallE P s d f pvs K) : CallE P s' d f pvs K := by
  unfold CallE at h ⊢
  cases hl : optL (lendPV 5 s) pvs with
  | none => rw [hl] at h; exact h.elim
  | some x =>
    rw [hl] at h
    rw [optL_mono (fun p x => lendPV_mono hM 5) hl]
    exact h

theorem EffW.move {o : Oper} {s s' : StL} {d : Nat} {K : PV → Option Res → Prop} (hM : MLe s s') (hT : ∀ t ∈ o.looksAt ops, getT s'.T t = getT s.T t) (h : EffW P ops o d s K) : EffW P ops o d s' K := by
  have ho := opdEq_of (ops := ops) hT
  unfold EffW at h ⊢
  rw [wantPV_congr hT]
  split at h
  · split at h
    · rename_i c hc
      have ho' : OpdEq s s' c.operands.toList := by rw [hc] at ho; simpa [Op.operands] using ho
      rw [callee_mono ho']
      split at h
      · exact h.move hM
      · rw [hc] at ho; exact h.move' hM ho
    · exact h.move' hM ho
  · exact h
  · exact h.elim

variable {w0 : Base} {F0 : Nat → Prop} {a : Act} {w : World}

theorem ValW.step {s : StL} {d : Nat} {op : Op} {q : PV} {r : Option Res} (hdn : d < n) (h : ValW P s d op (fun q' r' => q' = q ∧ r' = r)) (hf : r.isSome = true → s.free d = true) : StepW P n (some d) s op (fun s' => s' = app1 d q r s) := by
  unfold ValW at h
  unfold StepW PS.step
  simp only [if_pos hdn]
  split at h
  · rename_i q' hq
    obtain ⟨rfl, rfl⟩ := h
    simp only [hq]
    rfl
  · rename_i hq
    simp only [hq]
    split at h
    · rename_i b r' hn
      obtain ⟨rfl, rfl⟩ := h
      rw [newVal_new hn (hf rfl)]
      rfl
    · exact h.elim

theorem CallE.callW {s : StL} {d : Nat} {f : FuncId} {pvs : List PV} {q : PV} {r : Option Res} (hdn : d < n) (h : CallE P s d f pvs (fun q' r' => q' = q ∧ r' = r)) (hf : r.isSome = true → s.free d = true) : CallW P n (some d) s f pvs (fun s' => s' = app1 d q r s) := by
  unfold CallE at h
  unfold CallW
  refine ⟨hdn, ?_⟩
  split at h
  · exact h.elim
  · rename_i b tls hl
    obtain ⟨r0, Mr, h1, h2, h3⟩ := h
    refine .inl ?_
    unfold CallB
    refine .inl ?_
    rw [hl]
    split at h3
    · obtain ⟨h4, rfl, rfl⟩ := h3
      refine ⟨r0, [], h1, h2, ?_⟩
      simp only [retS, h4, if_true]
      rfl
    · rename_i res
      obtain ⟨h4, rfl, rfl⟩ := h3
      refine ⟨r0, [(0, res)], h1, h2, ?_⟩
      simp only [retS]
      rw [if_pos ⟨h4.1, h4.2, hf rfl⟩]
      rfl
    · exact h3.elim

theorem effW_wpOp {s : StL} {i : Nat} {o : Oper} {d : Nat} {q : PV} {r : Option Res} {K : Act → World → Prop} {Q : Exit → Act → World → Prop} (hi : ops[i]? = some o) (hd : o.dst = some d) (hdn : d < n) (h : Sim w0 F0 n s a w)
    (he : EffW P ops o d s (fun q' r' => q' = q ∧ r' = r)) (hf : r.isSome = true → s.free d = true) (hk : ∀ a' w', Sim w0 F0 n (app1 d q r s) a' w' → K a' w') : wpOp P ops Q i K a w := by
  unfold wpOp
  rw [hi]
  simp only
  unfold EffW at he
  have hop : ∀ x, OpW P n (some d) s x (fun s' => s' = app1 d q r s) → o.op = x → o.wp P a w K Q := by
    intro x hx hox
    refine opW_wp (P := P) (n := n) (K := fun s' => s' = app1 d q r s) h (by rw [hd, hox]; exact hx) fun s' a' w' hs' hsim => ?_
    subst hs'
    exact hk _ _ hsim
  split at he
  · rename_i hw
    rw [want_rep h hw, if_pos rfl]
    left
    split at he
    · rename_i c hc
      refine hop (.call c) ?_ hc
      unfold OpW
      split at he
      · rename_i hcal
        simp only [hcal]
        exact he.callW hdn hf
      · rename_i hcal
        simp only [hcal]
        exact he.step hdn hf
    · rename_i hnc
      refine hop o.op ?_ rfl
      unfold OpW
      split
      · rename_i x hx
        rw [hx] at he
        exact (show False from he).elim
      · rename_i c hc
        exact absurd hc (hnc c)
      · exact he.step hdn hf
  · rename_i hw
    obtain ⟨rfl, rfl⟩ := he
    rw [want_rep h hw, if_neg (by simp)]
    refine hk _ _ ?_
    have := skip_sim h o.dst (fun d' hd' => by rw [hd] at hd'; cases hd'; exact hdn)
    rw [hd] at this ⊢
    exact this
  · exact he.elim

/-! The plan: what each operation gives, in the order of the text. -/

def stOf (e : Nat → PV × Option Res) (dst : Nat → Nat) (s0 : StL) : List Nat → StL
  | [] => s0
  | j :: l => app1 (dst j) (e j).1 (e j).2 (stOf e dst s0 l)

def desc : Nat → List Nat
  | 0 => []
  | j + 1 => j :: desc j

theorem mem_desc : ∀ {i j : Nat}, j ∈ desc i ↔ j < i
  | 0, j => by simp [desc]
  | i + 1, j => by simp only [desc, List.mem_cons, mem_desc]; omega

theorem stOf_congr {e e' : Nat → PV × Option Res} {dst : Nat → Nat} {s0 : StL} : ∀ {l : List Nat}, (∀ j ∈ l, e j = e' j) → stOf e dst s0 l = stOf e' dst s0 l
  | [], _ => rfl
  | j :: l, h => by
    simp only [stOf, h j (by simp), stOf_congr (l := l) fun k hk => h k (List.mem_cons_of_mem _ hk)]

def dstAt (ops : Array Oper) (j : Nat) : Nat := ((ops[j]?).bind (·.dst)).getD 0

/-- The plan's line j. -/
def GoodAt (P : Program) (n : Nat) (ops : Array Oper) (As : List Nat) (e : Nat → PV × Option Res) (s0 : StL) (j : Nat) : Prop :=
  ∃ o d, ops[j]? = some o ∧ o.dst = some d ∧ d < n ∧ EffW P ops o d (stOf e (dstAt ops) s0 (desc j)) (fun q r => q = (e j).1 ∧ r = (e j).2) ∧
    ((e j).2.isSome = true → As.contains j = true ∧ (stOf e (dstAt ops) s0 (desc j)).free d = true)

theorem drawW_plan {m : Nat} {As : List Nat} {s0 : StL} {K : StL → Prop} (hm : m ≤ ops.size) : ∀ (k i : Nat) (e0 : Nat → PV × Option Res), i + k = m → DrawW P n ops m As i (ops.toList.drop i) (stOf e0 (dstAt ops) s0 (desc i)) K →
    ∃ e, (∀ j, j < i → e j = e0 j) ∧ (∀ j, i ≤ j → j < m → GoodAt P n ops As e s0 j) ∧ RunW P n ops (ops.toList.drop m) (stOf e (dstAt ops) s0 (desc m)) K
  | 0, i, e0, hk, h => by
    have : i = m := by omega
    subst this
    refine ⟨e0, fun _ _ => rfl, fun j h1 h2 => by omega, ?_⟩
    cases hl : ops.toList.drop i with
    | nil => rw [hl] at h; exact h
    | cons o rest =>
      rw [hl] at h
      simp only [DrawW] at h
      rwa [if_neg (by omega)] at h
  | k + 1, i, e0, hk, h => by
    have hi : i < ops.size := by omega
    have hdrop : ops.toList.drop i = ops[i] :: ops.toList.drop (i + 1) := by
      rw [List.drop_eq_getElem_cons (by simpa using hi)]
      simp
    rw [hdrop] at h
    simp only [DrawW] at h
    rw [if_pos (by omega)] at h
    split at h
    · exact h.elim
    · rename_i d hd
      obtain ⟨hdn, h⟩ := h
      obtain ⟨q, r, ⟨hres, hrest⟩, heff⟩ := h.pick
      have hda : dstAt ops i = d := by simp [dstAt, hi, hd]
      let e1 : Nat → PV × Option Res := fun j => if j = i then (q, r) else e0 j
      have he1 : ∀ j, j < i → e1 j = e0 j := fun j hj => by simp [e1, Nat.ne_of_lt hj]
      have hst : stOf e1 (dstAt ops) s0 (desc i) = stOf e0 (dstAt ops) s0 (desc i) := stOf_congr fun j hj => he1 j (mem_desc.1 hj)
      have hst' : stOf e1 (dstAt ops) s0 (desc (i + 1)) = app1 d q r (stOf e0 (dstAt ops) s0 (desc i)) := by
        simp only [desc, stOf, hst, hda]
        simp [e1]
      rw [← hst'] at hrest
      obtain ⟨e, h1, h2, h3⟩ := drawW_plan hm k (i + 1) e1 (by omega) hrest
      refine ⟨e, fun j hj => (h1 j (by omega)).trans (he1 j hj), fun j hj1 hj2 => ?_, h3⟩
      by_cases e' : j = i
      · subst e'
        have hei : e j = (q, r) := by rw [h1 j (by omega)]; simp [e1]
        have hst2 : stOf e (dstAt ops) s0 (desc j) = stOf e0 (dstAt ops) s0 (desc j) := stOf_congr fun k hk => (h1 k (by have := mem_desc.1 hk; omega)).trans (he1 k (mem_desc.1 hk))
        refine ⟨ops[j], d, by simp [hi], hd, hdn, ?_, ?_⟩
        · rw [hst2, hei]; exact heff
        · rw [hst2, hei]; exact hres
      · exact h2 j (by omega) hj2

/-! The static side. -/

def maskOf (D : List Nat) (o : Oper) : Nat := o.after.toList.foldl (fun m e => if Region.binds .any e then m ||| 2 ^ e.on ||| D.getD e.on 0 else m) 0
def depsOf (ops : Array Oper) : List Nat := ops.toList.foldl (fun D o => D ++ [maskOf D o]) []
def dep (D : List Nat) (j i : Nat) : Bool := (D.getD i 0).testBit j

def drawOk (ops : Array Oper) (m : Nat) (As : List Nat) (D : List Nat) : Bool :=
  decide (m ≤ ops.size) &&
  (List.range ops.size).all (fun i => match ops[i]? with
    | none => false
    | some o => o.after.toList.all (fun e => !Region.binds .any e || decide (e.on < i)) && (D.getD i 0 == maskOf D o) &&
        (if i < m then
          (o.dst.isSome && (o.looksAt ops).all (fun t => (List.range m).all fun j => (dstAt ops j != t) || j == i || (if j < i then dep D j i else dep D i j)) &&
            (List.range i).all (fun j => dstAt ops j != dstAt ops i) && (!As.contains i || (List.range m).all fun j => decide (j ≤ i) || dep D i j))
        else (List.range i).all fun j => dep D j i))


end
end Go.PS
/- PS19: whatever order is drawn, the region comes to what the text's order comes to. -/
namespace Go.PS
open Go Go.RowKit

theorem foldl_bits (D : List Nat) (k : Nat) : ∀ (es : List Edge) (m0 : Nat), (es.foldl (fun m e => if Region.binds .any e then m ||| 2 ^ e.on ||| D.getD e.on 0 else m) m0).testBit k = true →
    m0.testBit k = true ∨ ∃ e ∈ es, Region.binds .any e = true ∧ (e.on = k ∨ dep D k e.on = true)
  | [], m0, h => .inl h
  | e :: es, m0, h => by
    simp only [List.foldl_cons] at h
    rcases foldl_bits D k es _ h with h1 | ⟨e', he', hb, hk⟩
    · split at h1
      · rename_i hb
        simp only [Nat.testBit_or, Bool.or_eq_true, Nat.testBit_two_pow, decide_eq_true_eq] at h1
        rcases h1 with (h1 | h1) | h1
        · exact .inl h1
        · exact .inr ⟨e, by simp, hb, .inl h1⟩
        · exact .inr ⟨e, by simp, hb, .inr h1⟩
      · exact .inl h1
    · exact .inr ⟨e', List.mem_cons_of_mem _ he', hb, hk⟩

/-- What is known of a region that passes. -/
structure Passes (ops : Array Oper) (m : Nat) (As : List Nat) (D : List Nat) : Prop where
  le : m ≤ ops.size
  back : ∀ i o e, ops[i]? = some o → e ∈ o.after.toList → Region.binds .any e = true → e.on < i
  fix : ∀ i o k, ops[i]? = some o → dep D k i = true → ∃ e ∈ o.after.toList, Region.binds .any e = true ∧ (e.on = k ∨ dep D k e.on = true)
  look : ∀ i o t j, i < m → ops[i]? = some o → t ∈ o.looksAt ops → j < m → dstAt ops j = t → j = i ∨ (j < i ∧ dep D j i = true) ∨ (i < j ∧ dep D i j = true)
  uniq : ∀ i j, i < m → j < m → dstAt ops i = dstAt ops j → i = j
  born : ∀ i j, i < m → j < m → As.contains i = true → i < j → dep D i j = true
  seq : ∀ i j, m ≤ i → i < ops.size → j < i → dep D j i = true

theorem passes_of {ops : Array Oper} {m : Nat} {As D : List Nat} (h : drawOk ops m As D = true) : Passes ops m As D := by
  simp only [drawOk, Bool.and_eq_true, decide_eq_true_eq, List.all_eq_true, List.mem_range] at h
  obtain ⟨hle, hall⟩ := h
  have hat : ∀ i o, ops[i]? = some o → (∀ e ∈ o.after.toList, Region.binds .any e = true → e.on < i) ∧ D.getD i 0 = maskOf D o ∧
      (i < m → (∀ t ∈ o.looksAt ops, ∀ j, j < m → dstAt ops j = t → j = i ∨ (j < i ∧ dep D j i = true) ∨ (i < j ∧ dep D i j = true)) ∧ (∀ j, j < i → dstAt ops j ≠ dstAt ops i) ∧ (As.contains i = true → ∀ j, j < m → i < j → dep D i j = true)) ∧
      (m ≤ i → ∀ j, j < i → dep D j i = true) := by
    intro i o hi
    have hlt : i < ops.size := (Array.getElem?_eq_some_iff.1 hi).1
    have := hall i hlt
    rw [hi] at this
    simp only [Bool.and_eq_true, beq_iff_eq] at this
    obtain ⟨⟨h1, h2⟩, h3⟩ := this
    refine ⟨fun e he hb => ?_, h2, fun him => ?_, fun him => ?_⟩
    · have := List.all_eq_true.1 h1 e he
      simpa [hb] using this
    · rw [if_pos him] at h3
      simp only [Bool.and_eq_true] at h3
      obtain ⟨⟨⟨_, h4⟩, h5⟩, h6⟩ := h3
      refine ⟨fun t ht j hj hd => ?_, fun j hj => ?_, fun hA j hj hij => ?_⟩
      · have := List.all_eq_true.1 (List.all_eq_true.1 h4 t ht) j (List.mem_range.2 hj)
        simp only [Bool.or_eq_true, bne_iff_ne, ne_eq, beq_iff_eq] at this
        rcases this with (h7 | h7) | h7
        · exact absurd hd h7
        · exact .inl h7
        · by_cases hji : j < i
          · rw [if_pos hji] at h7; exact .inr (.inl ⟨hji, h7⟩)
          · rw [if_neg hji] at h7
            by_cases e : j = i
            · exact .inl e
            · exact .inr (.inr ⟨by omega, h7⟩)
      · have := List.all_eq_true.1 h5 j (List.mem_range.2 hj)
        simpa using this
      · simp only [hA, Bool.not_true, Bool.false_or] at h6
        have := List.all_eq_true.1 h6 j (List.mem_range.2 hj)
        simp only [Bool.or_eq_true, decide_eq_true_eq] at this
        exact this.resolve_left (by omega)
    · rw [if_neg (by omega)] at h3
      exact fun j hj => List.all_eq_true.1 h3 j (List.mem_range.2 hj)
  have hget : ∀ i, i < ops.size → ∃ o, ops[i]? = some o := fun i hi => ⟨ops[i], by simp [hi]⟩
  refine ⟨hle, fun i o e hi he hb => (hat i o hi).1 e he hb, fun i o k hi hk => ?_, fun i o t j him hi ht hj hd => ((hat i o hi).2.2.1 him).1 t ht j hj hd, fun i j hi hj hd => ?_, fun i j hi hj hA hij => ?_, fun i j him hi hj => ?_⟩
  · have h2 := (hat i o hi).2.1
    unfold dep at hk
    rw [h2] at hk
    exact (foldl_bits D k o.after.toList 0 hk).resolve_left (by simp)
  · obtain ⟨o, ho⟩ := hget i (by omega)
    obtain ⟨o', ho'⟩ := hget j (by omega)
    rcases Nat.lt_trichotomy i j with h1 | h1 | h1
    · exact absurd hd (((hat j o' ho').2.2.1 hj).2.1 i h1)
    · exact h1
    · exact absurd hd.symm (((hat i o ho).2.2.1 hi).2.1 j h1)
  · obtain ⟨o, ho⟩ := hget i (by omega)
    exact ((hat i o ho).2.2.1 hi).2.2 hA j hj hij
  · obtain ⟨o, ho⟩ := hget i hi
    exact (hat i o ho).2.2.2 him j hj

section
variable {e : Nat → PV × Option Res} {dst : Nat → Nat} {s0 : StL}

theorem getT_stOf_other {t : Nat} : ∀ {l : List Nat}, (∀ j ∈ l, dst j ≠ t) → getT (stOf e dst s0 l).T t = getT s0.T t
  | [], _ => rfl
  | j :: l, h => by
    simp only [stOf, app1, getT]
    rw [if_neg (h j (by simp)), getT_stOf_other fun k hk => h k (List.mem_cons_of_mem _ hk)]

theorem getT_stOf_hit {j : Nat} : ∀ {l : List Nat}, j ∈ l → (∀ k ∈ l, dst k = dst j → k = j) → getT (stOf e dst s0 l).T (dst j) = (e j).1
  | [], h, _ => by simp at h
  | k :: l, h, hu => by
    simp only [stOf, app1, getT]
    by_cases ek : dst k = dst j
    · rw [if_pos ek, hu k (by simp) ek]
    · rw [if_neg ek]
      have hj : j ∈ l := by
        rcases List.mem_cons.1 h with rfl | h
        · exact absurd rfl ek
        · exact h
      exact getT_stOf_hit hj fun i hi => hu i (List.mem_cons_of_mem _ hi)

theorem getM_stOf_other {t : Nat} : ∀ {l : List Nat}, (∀ j ∈ l, (e j).2.isSome = true → dst j ≠ t) → getM (stOf e dst s0 l).M t = getM s0.M t
  | [], _ => rfl
  | j :: l, h => by
    have ih := getM_stOf_other (l := l) fun k hk => h k (List.mem_cons_of_mem _ hk)
    simp only [stOf, app1]
    cases hr : (e j).2 with
    | none => exact ih
    | some r =>
      simp only [getM]
      rw [if_neg (h j (by simp) (by rw [hr]; rfl)), ih]

theorem getM_stOf_hit {j : Nat} {r : Res} (hr : (e j).2 = some r) : ∀ {l : List Nat}, j ∈ l → (∀ k ∈ l, dst k = dst j → k = j) → getM (stOf e dst s0 l).M (dst j) = r
  | [], h, _ => by simp at h
  | k :: l, h, hu => by
    have hu' : ∀ i ∈ l, dst i = dst j → i = j := fun i hi => hu i (List.mem_cons_of_mem _ hi)
    simp only [stOf, app1]
    by_cases ek : dst k = dst j
    · have := hu k (by simp) ek
      subst this
      rw [hr]
      simp [getM]
    · have hj : j ∈ l := by
        rcases List.mem_cons.1 h with rfl | h
        · exact absurd rfl ek
        · exact h
      cases hk : (e k).2 with
      | none => exact getM_stOf_hit hr hj hu'
      | some r' =>
        simp only [getM]
        rw [if_neg ek]
        exact getM_stOf_hit hr hj hu'

theorem stOf_allT {p : Nat × PV → Bool} : ∀ {l : List Nat}, (stOf e dst s0 l).T.all p = true ↔ s0.T.all p = true ∧ ∀ j ∈ l, p (dst j, (e j).1) = true
  | [] => by simp [stOf]
  | j :: l => by
    have ih := stOf_allT (p := p) (l := l)
    simp only [stOf, app1, List.all_cons, Bool.and_eq_true, ih, List.mem_cons]
    constructor
    · rintro ⟨h1, h2, h3⟩
      exact ⟨h2, fun k hk => by rcases hk with rfl | hk; exact h1; exact h3 k hk⟩
    · rintro ⟨h1, h2⟩
      exact ⟨h2 j (.inl rfl), h1, fun k hk => h2 k (.inr hk)⟩

theorem stOf_allM {p : Nat × Res → Bool} : ∀ {l : List Nat}, (stOf e dst s0 l).M.all p = true ↔ s0.M.all p = true ∧ ∀ j ∈ l, ∀ r, (e j).2 = some r → p (dst j, r) = true
  | [] => by simp [stOf]
  | j :: l => by
    have ih := stOf_allM (p := p) (l := l)
    simp only [stOf, app1]
    cases hr : (e j).2 with
    | none =>
      simp only [ih, List.mem_cons]
      constructor
      · rintro ⟨h2, h3⟩
        exact ⟨h2, fun k hk r hkr => by
          rcases hk with rfl | hk
          · rw [hr] at hkr; cases hkr
          · exact h3 k hk r hkr⟩
      · rintro ⟨h1, h2⟩
        exact ⟨h1, fun k hk => h2 k (.inr hk)⟩
    | some r0 =>
      simp only [List.all_cons, Bool.and_eq_true, ih, List.mem_cons]
      constructor
      · rintro ⟨h1, h2, h3⟩
        exact ⟨h2, fun k hk r hkr => by
          rcases hk with rfl | hk
          · rw [hr] at hkr; cases hkr; exact h1
          · exact h3 k hk r hkr⟩
      · rintro ⟨h1, h2⟩
        exact ⟨h2 j (.inl rfl) r0 hr, h1, fun k hk => h2 k (.inr hk)⟩

end

def cnt (p : Nat → Bool) : Nat → Nat
  | 0 => 0
  | n + 1 => cnt p n + if p n then 1 else 0

theorem cnt_zero {p : Nat → Bool} : ∀ {n : Nat}, cnt p n = 0 → ∀ i, i < n → p i = false
  | 0, _, i, hi => by omega
  | n + 1, h, i, hi => by
    simp only [cnt] at h
    by_cases e : i = n
    · subst e
      cases hp : p i with
      | false => rfl
      | true => rw [hp] at h; simp at h
    · exact cnt_zero (n := n) (by omega) i (by omega)

theorem cnt_one {p p' : Nat → Bool} {i : Nat} (hi : p i = true) (hp : ∀ j, p' j = (p j && j != i)) : ∀ {n : Nat}, i < n → cnt p n = cnt p' n + 1
  | 0, h => by omega
  | n + 1, h => by
    simp only [cnt]
    by_cases e : i = n
    · subst e
      have : ∀ m, m ≤ i → cnt p' m = cnt p m := by
        intro m
        induction m with
        | zero => intro _; rfl
        | succ m ih =>
          intro hm
          simp only [cnt]
          rw [ih (by omega), hp m]
          have : (m != i) = true := by simp; omega
          simp [this]
      rw [this i (Nat.le_refl _), hp i, hi]
      simp
    · rw [cnt_one hi hp (n := n) (by omega), hp n]
      have : (n != i) = true := by simp; omega
      simp only [this, Bool.and_true]
      omega

section
variable {P : Program} {n : Nat} {ops : Array Oper} {w0 : Base} {F0 : Nat → Prop}

theorem ready_iff {listed : Array Bool} {i : Nat} : i ∈ Region.ready .any ops listed ↔ ∃ o, ops[i]? = some o ∧ listed.getD i true = false ∧ ∀ e ∈ o.after.toList, Region.binds .any e = true → listed.getD e.on false = true := by
  simp only [Region.ready, List.mem_filter, List.mem_range, Bool.and_eq_true, Bool.not_eq_true']
  constructor
  · rintro ⟨hi, h1, h2⟩
    refine ⟨ops[i], by simp [hi], h1, fun e he hb => ?_⟩
    simp only [hi, Array.getElem?_eq_getElem, Option.map_some, Option.getD_some, Array.all_eq_true'] at h2
    have := h2 e (by simpa using he)
    simpa [hb] using this
  · rintro ⟨o, ho, h1, h2⟩
    refine ⟨(Array.getElem?_eq_some_iff.1 ho).1, h1, ?_⟩
    rw [ho]
    simp only [Option.map_some, Option.getD_some, Array.all_eq_true']
    intro e he
    cases hb : Region.binds .any e with
    | false => simp
    | true => simp [h2 e (by simpa using he) hb]

/-- The run of a region in any order: what has been done is what the plan says. -/
theorem draw_any {m : Nat} {As D : List Nat} (hp : Passes ops m As D) {e : Nat → PV × Option Res} {s0 : StL} {K : StL → Prop} {Q : Exit → Act → World → Prop} (hg : ∀ j, j < m → GoodAt P n ops As e s0 j)
    (hrest : RunW P n ops (ops.toList.drop m) (stOf e (dstAt ops) s0 (desc m)) K) (hK : ∀ s' a' w', K s' → Sim w0 F0 n s' a' w' → Q .normal a' w') :
    ∀ (fuel : Nat) (listed : Array Bool) (a : Act) (w : World), listed.size = ops.size → cnt (fun i => !listed.getD i true) ops.size ≤ fuel →
      ((∃ l : List Nat, (∀ i, i < ops.size → (listed.getD i true = true ↔ i ∈ l)) ∧ (∀ i ∈ l, i < m) ∧ (∀ i ∈ l, ∀ k, dep D k i = true → k ∈ l) ∧ Sim w0 F0 n (stOf e (dstAt ops) s0 l) a w) ∨
       (∃ k, m ≤ k ∧ k ≤ ops.size ∧ (∀ i, i < ops.size → (listed.getD i true = true ↔ i < k)) ∧ wpList P ops Q (ops.toList.drop k) a w)) →
      wpAny P .any ops Q fuel listed a w := by
  -- the second half: one after the other
  have two : ∀ (fuel : Nat) (listed : Array Bool) (a : Act) (w : World), listed.size = ops.size → cnt (fun i => !listed.getD i true) ops.size ≤ fuel →
      (∃ k, m ≤ k ∧ k ≤ ops.size ∧ (∀ i, i < ops.size → (listed.getD i true = true ↔ i < k)) ∧ wpList P ops Q (ops.toList.drop k) a w) → wpAny P .any ops Q fuel listed a w := by
    intro fuel
    have hend : ∀ (listed : Array Bool) (a : Act) (w : World) (k : Nat), listed.size = ops.size → m ≤ k → k ≤ ops.size → (∀ i, i < ops.size → (listed.getD i true = true ↔ i < k)) → wpList P ops Q (ops.toList.drop k) a w →
        Region.ready .any ops listed = [] → Q .normal a w := by
      intro listed a w k hs hmk hk hl hw hr
      have hkn : k = ops.size := by
        rcases Nat.lt_or_ge k ops.size with hlt | hge
        · exfalso
          have : k ∈ Region.ready .any ops listed := ready_iff.2 ⟨ops[k], by simp [hlt], by
            cases hx : listed.getD k true with
            | false => rfl
            | true => exact absurd ((hl k hlt).1 hx) (by omega), fun e he hb => by
            have := hp.back k ops[k] e (by simp [hlt]) he hb
            have h2 := (hl e.on (by omega)).2 this
            simpa [Array.getD_eq_getD_getElem?, show e.on < listed.size by omega] using h2⟩
          rw [hr] at this
          simp at this
        · omega
      rw [hkn, List.drop_of_length_le (by simp)] at hw
      exact hw
    induction fuel with
    | zero =>
      rintro listed a w hs hc ⟨k, hmk, hk, hl, hw⟩
      have hr : Region.ready .any ops listed = [] := by
        rw [List.eq_nil_iff_forall_not_mem]
        intro i hi
        obtain ⟨o, ho, h1, _⟩ := ready_iff.1 hi
        have := cnt_zero (by omega : cnt (fun i => !listed.getD i true) ops.size = 0) i (Array.getElem?_eq_some_iff.1 ho).1
        simp [h1] at this
      exact ⟨hr, hend listed a w k hs hmk hk hl hw hr⟩
    | succ fuel ih =>
      rintro listed a w hs hc ⟨k, hmk, hk, hl, hw⟩
      refine ⟨fun hr => hend listed a w k hs hmk hk hl hw hr, fun i hi => ?_⟩
      obtain ⟨o, ho, h1, h2⟩ := ready_iff.1 hi
      have hin : i < ops.size := (Array.getElem?_eq_some_iff.1 ho).1
      have hik : i = k := by
        have hge : ¬ i < k := fun h => by rw [(hl i hin).2 h] at h1; cases h1
        rcases Nat.lt_or_ge k i with hlt | hge'
        · exfalso
          have hd := hp.seq i k (by omega) hin hlt
          -- its predecessors are listed, all the way
          have : ∀ i, i < ops.size → (∀ o, ops[i]? = some o → ∀ e ∈ o.after.toList, Region.binds .any e = true → e.on < k) → dep D k i = true → False := by
            intro i hi hb hd
            obtain ⟨e, he, hbe, hke⟩ := hp.fix i ops[i] k (by simp [hi]) hd
            have he1 := hb ops[i] (by simp [hi]) e he hbe
            rcases hke with rfl | hke
            · omega
            · -- an edge to something below k that waits for k
              have : ∀ j, j < k → dep D k j = true → False := by
                intro j
                induction j using Nat.strongRecOn with
                | _ j ihj =>
                  intro hj hdj
                  have hjn : j < ops.size := by omega
                  obtain ⟨e, he, hbe, hke⟩ := hp.fix j ops[j] k (by simp [hjn]) hdj
                  have := hp.back j ops[j] e (by simp [hjn]) he hbe
                  rcases hke with rfl | hke
                  · omega
                  · exact ihj e.on this (by omega) hke
              exact this e.on he1 hke
          refine this i hin (fun o' ho' e he hb => ?_) hd
          rw [ho] at ho'
          cases ho'
          have h3 := h2 e he hb
          have hen : e.on < ops.size := by have := hp.back i o e ho he hb; omega
          exact (hl e.on hen).1 (by simpa [Array.getD_eq_getD_getElem?, show e.on < listed.size by omega] using h3)
        · omega
      subst hik
      have hdrop : ops.toList.drop i = o :: ops.toList.drop (i + 1) := by
        rw [List.drop_eq_getElem_cons (by simpa using hin)]
        have : ops[i] = o := by simpa [hin] using ho
        simp [this]
      rw [hdrop] at hw
      have hset : ∀ j, (listed.setIfInBounds i true).getD j true = (listed.getD j true || j == i) := by
        intro j
        simp only [Array.getD_eq_getD_getElem?, Array.getElem?_setIfInBounds]
        by_cases e : i = j
        · subst e; simp [show i < listed.size by omega]
        · have e' : (j == i) = false := by simp; omega
          simp [e, e']
      have next : ∀ a' w', wpList P ops Q (ops.toList.drop (i + 1)) a' w' → wpAny P .any ops Q fuel (listed.setIfInBounds i true) a' w' := by
        intro a' w' hw'
        refine ih _ _ _ (by simpa using hs) ?_ ⟨i + 1, by omega, by omega, fun j hj => ?_, hw'⟩
        · have := cnt_one (p := fun i => !listed.getD i true) (p' := fun j => !(listed.setIfInBounds i true).getD j true) (i := i) (by simp [h1]) (fun j => by simp only [hset]; simp [bne]) hin
          omega
        · rw [hset]
          simp only [Bool.or_eq_true, beq_iff_eq]
          rw [hl j hj]
          omega
      unfold wpOp
      rw [ho]
      simp only [wpList] at hw ⊢
      split
      · rename_i hw1
        rw [if_pos hw1] at hw
        exact hw.imp (Oper.wp_mono next) id
      · rename_i hw1
        rw [if_neg hw1] at hw
        exact next _ _ hw
  intro fuel
  -- at the turn
  have turn : ∀ (l : List Nat) (a : Act) (w : World), (∀ i ∈ l, i < m) → (∀ i, i < m → i ∈ l) → Sim w0 F0 n (stOf e (dstAt ops) s0 l) a w → wpList P ops Q (ops.toList.drop m) a w := by
    intro l a w h1 h2 h3
    refine runW_wp _ (h3.weak ⟨fun t => .inl ?_, fun q => .inl ?_⟩) hrest hK
    · by_cases ht : ∃ j, j < m ∧ dstAt ops j = t
      · obtain ⟨j, hj, rfl⟩ := ht
        rw [getT_stOf_hit (mem_desc.2 hj) (fun k hk hd => hp.uniq k j (mem_desc.1 hk) hj hd), getT_stOf_hit (h2 j hj) (fun k hk hd => hp.uniq k j (h1 k hk) hj hd)]
      · rw [getT_stOf_other fun j hj hd => ht ⟨j, mem_desc.1 hj, hd⟩, getT_stOf_other fun j hj hd => ht ⟨j, h1 j hj, hd⟩]
    · by_cases ht : ∃ j, j < m ∧ dstAt ops j = q ∧ (e j).2.isSome = true
      · obtain ⟨j, hj, rfl, hs⟩ := ht
        obtain ⟨r, hr⟩ := Option.isSome_iff_exists.1 hs
        rw [getM_stOf_hit hr (mem_desc.2 hj) (fun k hk hd => hp.uniq k j (mem_desc.1 hk) hj hd), getM_stOf_hit hr (h2 j hj) (fun k hk hd => hp.uniq k j (h1 k hk) hj hd)]
      · rw [getM_stOf_other fun j hj hs hd => ht ⟨j, mem_desc.1 hj, hd, hs⟩, getM_stOf_other fun j hj hs hd => ht ⟨j, h1 j hj, hd, hs⟩]
  -- where nothing is ready all has been done
  have none_ready : ∀ (listed : Array Bool) (l : List Nat), listed.size = ops.size → (∀ i, i < ops.size → (listed.getD i true = true ↔ i ∈ l)) → Region.ready .any ops listed = [] → ∀ i, i < ops.size → i ∈ l := by
    intro listed l hs hl hr i
    induction i using Nat.strongRecOn with
    | _ i ih =>
      intro hi
      cases hx : listed.getD i true with
      | true => exact (hl i hi).1 hx
      | false =>
        exfalso
        have : i ∈ Region.ready .any ops listed := ready_iff.2 ⟨ops[i], by simp [hi], hx, fun e he hb => by
          have h1 := hp.back i ops[i] e (by simp [hi]) he hb
          have h2 := (hl e.on (by omega)).2 (ih e.on h1 (by omega))
          simpa [Array.getD_eq_getD_getElem?, show e.on < listed.size by omega] using h2⟩
        rw [hr] at this
        simp at this
  induction fuel with
  | zero =>
    rintro listed a w hs hc (⟨l, hl, hlm, hcl, hsim⟩ | h2)
    · have hr : Region.ready .any ops listed = [] := by
        rw [List.eq_nil_iff_forall_not_mem]
        intro i hi
        obtain ⟨o, ho, h1, _⟩ := ready_iff.1 hi
        have := cnt_zero (by omega : cnt (fun i => !listed.getD i true) ops.size = 0) i (Array.getElem?_eq_some_iff.1 ho).1
        simp [h1] at this
      have hall := none_ready listed l hs hl hr
      have hmn : m = ops.size := by
        rcases Nat.lt_or_ge m ops.size with hlt | hge
        · exact absurd (hlm m (hall m hlt)) (by omega)
        · have := hp.le; omega
      exact two 0 listed a w hs hc ⟨m, Nat.le_refl _, hp.le, fun i hi => by rw [hl i hi]; exact ⟨hlm i, fun h => hall i hi⟩, turn l a w hlm (fun i hi => hall i (by omega)) hsim⟩
    · exact two 0 listed a w hs hc h2
  | succ fuel ih =>
    rintro listed a w hs hc (⟨l, hl, hlm, hcl, hsim⟩ | h2)
    · by_cases hfull : ∀ i, i < m → i ∈ l
      · exact two (fuel + 1) listed a w hs hc ⟨m, Nat.le_refl _, hp.le, fun i hi => by rw [hl i hi]; exact ⟨hlm i, fun h => hfull i h⟩, turn l a w hlm hfull hsim⟩
      · refine ⟨fun hr => absurd (fun i hi => none_ready listed l hs hl hr i (by have := hp.le; omega)) hfull, fun i hi => ?_⟩
        obtain ⟨o, ho, h1, h2⟩ := ready_iff.1 hi
        have hin : i < ops.size := (Array.getElem?_eq_some_iff.1 ho).1
        have hnl : i ∉ l := fun h => by rw [(hl i hin).2 h] at h1; cases h1
        have hdeps : ∀ k, dep D k i = true → k ∈ l := by
          intro k hk
          obtain ⟨e, he, hb, hke⟩ := hp.fix i o k ho hk
          have hen := hp.back i o e ho he hb
          have h3 := h2 e he hb
          have hel : e.on ∈ l := (hl e.on (by omega)).1 (by simpa [Array.getD_eq_getD_getElem?, show e.on < listed.size by omega] using h3)
          rcases hke with rfl | hke
          · exact hel
          · exact hcl e.on hel k hke
        have him : i < m := by
          rcases Nat.lt_or_ge i m with h | h
          · exact h
          · exfalso
            exact hfull fun j hj => hdeps j (hp.seq i j h hin (by omega))
        obtain ⟨o', d, ho', hd, hdn, heff, hborn⟩ := hg i him
        rw [ho] at ho'
        cases ho'
        have hda : dstAt ops i = d := by simp [dstAt, ho, hd]
        -- what it looks at is as in the order of the text
        have hlook : ∀ t ∈ o.looksAt ops, getT (stOf e (dstAt ops) s0 l).T t = getT (stOf e (dstAt ops) s0 (desc i)).T t := by
          intro t ht
          by_cases hj : ∃ j, j < m ∧ dstAt ops j = t
          · obtain ⟨j, hj, rfl⟩ := hj
            rcases hp.look i o _ j him ho ht hj rfl with rfl | ⟨hji, hdj⟩ | ⟨hij, hdi⟩
            · rw [getT_stOf_other fun k hk hd' => hnl (by rw [← hp.uniq k j (hlm k hk) hj hd']; exact hk), getT_stOf_other fun k hk hd' => by
                have := mem_desc.1 hk
                have := hp.uniq k j (by omega) hj hd'
                omega]
            · rw [getT_stOf_hit (hdeps j hdj) (fun k hk hd' => hp.uniq k j (hlm k hk) hj hd'), getT_stOf_hit (mem_desc.2 hji) (fun k hk hd' => hp.uniq k j (by have := mem_desc.1 hk; omega) hj hd')]
            · rw [getT_stOf_other fun k hk hd' => by
                have := hp.uniq k j (hlm k hk) hj hd'
                subst this
                exact hnl (hcl k hk i hdi), getT_stOf_other fun k hk hd' => by
                have := mem_desc.1 hk
                have := hp.uniq k j (by omega) hj hd'
                omega]
          · rw [getT_stOf_other fun k hk hd' => hj ⟨k, hlm k hk, hd'⟩, getT_stOf_other fun k hk hd' => hj ⟨k, by have := mem_desc.1 hk; omega, hd'⟩]
        have hmem : MLe (stOf e (dstAt ops) s0 (desc i)) (stOf e (dstAt ops) s0 l) := by
          intro q
          by_cases hj : ∃ j, j < i ∧ dstAt ops j = q ∧ (e j).2.isSome = true
          · obtain ⟨j, hj, rfl, hsj⟩ := hj
            obtain ⟨r, hr⟩ := Option.isSome_iff_exists.1 hsj
            obtain ⟨_, _, _, _, _, _, hbj⟩ := hg j (by omega)
            have hjl : j ∈ l := hdeps j (hp.born j i (by omega) him (hbj hsj).1 hj)
            right
            rw [getM_stOf_hit hr (mem_desc.2 hj) (fun k hk hd' => hp.uniq k j (by have := mem_desc.1 hk; omega) (by omega) hd'), getM_stOf_hit hr hjl (fun k hk hd' => hp.uniq k j (hlm k hk) (by omega) hd')]
          · have e1 : getM (stOf e (dstAt ops) s0 (desc i)).M q = getM s0.M q := getM_stOf_other fun k hk hsk hd' => hj ⟨k, mem_desc.1 hk, hd', hsk⟩
            rw [e1]
            by_cases hj2 : ∃ j, j ∈ l ∧ dstAt ops j = q ∧ (e j).2.isSome = true
            · obtain ⟨j, hjl, rfl, hsj⟩ := hj2
              left
              obtain ⟨o2, d2, ho2, hd2, _, _, hbj⟩ := hg j (hlm j hjl)
              have hda2 : dstAt ops j = d2 := by simp [dstAt, ho2, hd2]
              have hf := (hbj hsj).2
              simp only [StL.free, Bool.and_eq_true] at hf
              have h5 := Res.eq_dead hf.2.1
              rw [← hda2] at h5
              rwa [getM_stOf_other fun k hk hsk hd' => by
                have h6 := mem_desc.1 hk
                have := hp.uniq k j (by have := hlm j hjl; omega) (hlm j hjl) hd'
                omega] at h5
            · right
              exact getM_stOf_other fun k hk hsk hd' => hj2 ⟨k, hk, hd', hsk⟩
        have heff' := heff.move hmem hlook
        have hfree : (e i).2.isSome = true → (stOf e (dstAt ops) s0 l).free d = true := by
          intro hsi
          obtain ⟨hA, hf⟩ := hborn hsi
          have hsub : ∀ j ∈ l, j < i := by
            intro j hj
            rcases Nat.lt_trichotomy j i with h | h | h
            · exact h
            · subst h; exact absurd hj hnl
            · exact absurd (hcl j hj i (hp.born i j him (hlm j hj) hA h)) hnl
          simp only [StL.free, Bool.and_eq_true] at hf ⊢
          obtain ⟨⟨hf1, hf2⟩, hf3, hf6⟩ := hf
          rw [stOf_allT] at hf1
          rw [stOf_allM] at hf2
          refine ⟨⟨stOf_allT.2 ⟨hf1.1, fun j hj => hf1.2 j (mem_desc.2 (hsub j hj))⟩, stOf_allM.2 ⟨hf2.1, fun j hj => hf2.2 j (mem_desc.2 (hsub j hj))⟩⟩, ?_, hf6⟩
          have h5 := Res.eq_dead hf3
          rw [← hda] at h5 ⊢
          rw [getM_stOf_other fun k hk hsk hd' => by
            have h6 := mem_desc.1 hk
            have := hp.uniq k i (by omega) him hd'
            omega] at h5
          rw [getM_stOf_other fun k hk hsk hd' => by
            have h6 := hsub k hk
            have := hp.uniq k i (by omega) him hd'
            omega, h5]
          rfl
        have heq : (fun q r => q = (e i).1 ∧ r = (e i).2) = fun q' r' => q' = (e i).1 ∧ r' = (e i).2 := rfl
        refine effW_wpOp ho hd hdn hsim heff' hfree fun a' w' hsim' => ?_
        have hset : ∀ j, (listed.setIfInBounds i true).getD j true = (listed.getD j true || j == i) := by
          intro j
          simp only [Array.getD_eq_getD_getElem?, Array.getElem?_setIfInBounds]
          by_cases e : i = j
          · subst e; simp [show i < listed.size by omega]
          · have e' : (j == i) = false := by simp; omega
            simp [e, e']
        refine ih _ _ _ (by simpa using hs) ?_ (.inl ⟨i :: l, fun j hj => ?_, fun j hj => ?_, fun j hj k hk => ?_, ?_⟩)
        · have := cnt_one (p := fun i => !listed.getD i true) (p' := fun j => !(listed.setIfInBounds i true).getD j true) (i := i) (by simp [h1]) (fun j => by simp only [hset]; simp [bne]) hin
          omega
        · rw [hset, Bool.or_eq_true, hl j hj, List.mem_cons, beq_iff_eq]
          exact Or.comm
        · rcases List.mem_cons.1 hj with rfl | hj
          · exact him
          · exact hlm j hj
        · rcases List.mem_cons.1 hj with rfl | hj
          · exact List.mem_cons_of_mem _ (hdeps k hk)
          · exact List.mem_cons_of_mem _ (hcl j hj k hk)
        · simp only [stOf, hda]
          exact hsim'
    · exact two (fuel + 1) listed a w hs hc h2

/-- A region that draws its order. -/
theorem cw_draw {id m : Nat} {As : List Nat} {s : StL} {Q : Exit → StL → Prop} (hm : P.follows .mixedOrders = true) (hok : drawOk ops m As (depsOf ops) = true)
    (h : ∀ K : StL → Prop, (∀ s', Q .normal s' → K s') → DrawW P n ops m As 0 ops.toList s K) : CodeW P n (.region id ops true) s Q := by
  intro w0 F0 a w hs
  have hp := passes_of hok
  obtain ⟨e, _, hgood, hrest⟩ := drawW_plan (P := P) (n := n) (ops := ops) hp.le m 0 (fun _ => (.undef, none)) (by omega) (by simpa [desc, stOf] using h _ fun s' hs' => hs')
  refine wp_region_any hm ?_
  have hs' : Sim w0 F0 n s a { w with drawn := w.drawn + 1 } := by
    obtain ⟨φ, fp, hx⟩ := hs
    exact ⟨φ, fp, hx.same rfl rfl rfl rfl⟩
  refine draw_any (w0 := w0) (F0 := F0) (K := fun s' => Q .normal s') hp (fun j hj => hgood j (Nat.zero_le _) hj) hrest (fun s' a' w' h1 h2 => ⟨s', h1, h2⟩) ops.size _ _ _ (by simp) ?_ (.inl ⟨[], fun i hi => ?_, by simp, by simp, hs'⟩)
  · have : ∀ k, cnt (fun i => !(Array.replicate ops.size false).getD i true) k ≤ k := by
      intro k
      induction k with
      | zero => simp [cnt]
      | succ k ih => simp only [cnt]; split <;> omega
    exact this _
  · simp [Array.getD_eq_getD_getElem?, hi]

end
end Go.PS
