/- PS18: a region that draws its order is run in the order of the text. -/
import Derived.Test.YtmneioafbkknhaaPS17
set_option linter.unusedVariables false
set_option linter.unusedSimpArgs false
namespace Go.PS
open Go Go.RowKit

def ValW (P : Program) (s : StL) (d : Nat) (op : Op) (K : PV → Option Res → Prop) : Prop :=
  match valOp P s op with
  | some q => K q none
  | none => match newVal P s op with
    | some (b, r) => K (if b then .ptr d 0 else .osl d) (some r)
    | none => False

def CallE (P : Program) (s : StL) (d : Nat) (f : FuncId) (pvs : List PV) (K : PV → Option Res → Prop) : Prop :=
  match optL (lendPV 5 s) pvs with
  | none => False
  | some (b, tls) => ∃ r Mr, PCall P f tls r Mr ∧ (b = true → r.noRo = true ∧ Mr.all (fun p => p.2.noRo) = true) ∧ match Mr with
    | [] => r.nm false 0 = true ∧ K (r.ren d) none
    | [(0, res)] => (r.nm true 0 = true ∧ res.nm true 0 = true) ∧ K (r.ren d) (some (res.ren d))
    | _ => False

def EffW (P : Program) (ops : Array Oper) (o : Oper) (d : Nat) (s : StL) (K : PV → Option Res → Prop) : Prop :=
  match wantPV ops s o with
  | some true => match o.op with
    | .call c => match callee s c with
      | some (f, pvs) => CallE P s d f pvs K
      | none => ValW P s d (.call c) K
    | op => ValW P s d op K
  | some false => K skipPV none
  | none => False

def app1 (d : Nat) (q : PV) (r : Option Res) (s : StL) : StL := ⟨(d, q) :: s.T, match r with | some r => (d, r) :: s.M | none => s.M⟩

def DrawW (P : Program) (n : Nat) (ops : Array Oper) (m : Nat) (As : List Nat) : Nat → List Oper → StL → (StL → Prop) → Prop
  | _, [], s, K => K s
  | i, o :: rest, s, K => if i < m then match o.dst with
      | none => False
      | some d => d < n ∧ EffW P ops o d s fun q res => (res.isSome = true → As.contains i = true ∧ s.free d = true) ∧ DrawW P n ops m As (i + 1) rest (app1 d q res s) K
    else RunW P n ops (o :: rest) s K

section
variable {P : Program} {n : Nat} {ops : Array Oper}

theorem ValW.pick {s : StL} {d : Nat} {op : Op} {K : PV → Option Res → Prop} (h : ValW P s d op K) : ∃ q r, K q r ∧ ValW P s d op (fun q' r' => q' = q ∧ r' = r) := by
  unfold ValW at h ⊢
  split at h
  · exact ⟨_, _, h, rfl, rfl⟩
  · split at h
    · exact ⟨_, _, h, rfl, rfl⟩
    · exact h.elim

theorem CallE.pick {s : StL} {d : Nat} {f : FuncId} {pvs : List PV} {K : PV → Option Res → Prop} (h : CallE P s d f pvs K) : ∃ q r, K q r ∧ CallE P s d f pvs (fun q' r' => q' = q ∧ r' = r) := by
  unfold CallE at h ⊢
  split at h
  · exact h.elim
  · obtain ⟨r, Mr, h1, h2, h3⟩ := h
    split at h3
    · exact ⟨_, _, h3.2, r, [], h1, h2, h3.1, rfl, rfl⟩
    · exact ⟨_, _, h3.2, r, [(0, _)], h1, h2, h3.1, rfl, rfl⟩
    · exact h3.elim

theorem EffW.pick {o : Oper} {s : StL} {d : Nat} {K : PV → Option Res → Prop} (h : EffW P ops o d s K) : ∃ q r, K q r ∧ EffW P ops o d s (fun q' r' => q' = q ∧ r' = r) := by
  unfold EffW at h ⊢
  split at h
  · split at h
    · split at h
      · exact h.pick
      · exact h.pick
    · exact h.pick
  · exact ⟨_, _, h, rfl, rfl⟩
  · exact h.elim

theorem ValW.move {s s' : StL} {d : Nat} {op : Op} {K : PV → Option Res → Prop} (hM : MLe s s') (ho : OpdEq s s' op.operands.toList) (h : ValW P s d op K) (hex : valOp P s op = none → valOp P s' op = none) : ValW P s' d op K := by
  unfold ValW at h ⊢
  split at h
  · rename_i q hq
    rw [valOp_mono hM ho hq]
    exact h
  · rename_i hq
    rw [hex hq, newVal_mono ho]
    exact h

/-- What makes memory is no plain value. -/
theorem newVal_noVal {s s' : StL} {op : Op} (h : newVal P s op ≠ none) : valOp P s' op = none := by
  cases op <;> first | exact absurd rfl h | rfl

theorem ValW.move' {s s' : StL} {d : Nat} {op : Op} {K : PV → Option Res → Prop} (hM : MLe s s') (ho : OpdEq s s' op.operands.toList) (h : ValW P s d op K) : ValW P s' d op K := by
  cases hv : valOp P s op with
  | some q => exact h.move hM ho fun e => by rw [hv] at e; cases e
  | none =>
    refine h.move hM ho fun _ => newVal_noVal (s := s) fun e => ?_
    unfold ValW at h
    rw [hv, e] at h
    exact h

theorem wantPV_congr {s s' : StL} {o : Oper} (h : ∀ t ∈ o.looksAt ops, getT s'.T t = getT s.T t) : wantPV ops s' o = wantPV ops s o := by
  unfold wantPV
  split
  · rfl
  · rename_i j b hg
    have : gdPV ops s' j = gdPV ops s j := by
      unfold gdPV
      split
      · rename_i d hd
        rw [h d (by simp only [Oper.looksAt, hg, List.mem_append]; right; rw [hd]; simp)]
      · rfl
    rw [this]

theorem opdEq_of {s s' : StL} {o : Oper} (h : ∀ t ∈ o.looksAt ops, getT s'.T t = getT s.T t) : OpdEq s s' o.op.operands.toList := by
  intro x hx
  cases x with
  | tmp t => exact h t (by simp only [Oper.looksAt, List.mem_append]; left; exact List.mem_filterMap.2 ⟨.tmp t, hx, rfl⟩)
  | const v => cases v <;> rfl
  | func f => rfl
  | global g => rfl

theorem CallE.move {s s' : StL} {d : Nat} {f : FuncId} {pvs : List PV} {K : PV → Option Res → Prop} (hM : MLe s s') (h : CallE P s d f pvs K) : CallE P s' d f pvs K := by
  unfold CallE at h ⊢
  cases hl : optL (lendPV 5 s) pvs with
  | none => rw [hl] at h; exact h.elim
  | some x =>
    rw [hl] at h
    rw [optL_mono (fun p x => lendPV_mono hM 5) hl]
    exact h

theorem EffW.move {o : Oper} {s s' : StL} {d : Nat} {K : PV → Option Res → Prop} (hM : MLe s s') (hT : ∀ t ∈ o.looksAt ops, getT s'.T t = getT s.T t) (h : EffW P ops o d s K) : EffW P ops o d s' K := by
  have ho := opdEq_of (ops := ops) hT
  unfold EffW at h ⊢
  rw [wantPV_congr hT]
  split at h
  · split at h
    · rename_i c hc
      have ho' : OpdEq s s' c.operands.toList := by rw [hc] at ho; simpa [Op.operands] using ho
      rw [callee_mono ho']
      split at h
      · exact h.move hM
      · rw [hc] at ho; exact h.move' hM ho
    · exact h.move' hM ho
  · exact h
  · exact h.elim

variable {w0 : Base} {F0 : Nat → Prop} {a : Act} {w : World}

theorem ValW.step {s : StL} {d : Nat} {op : Op} {q : PV} {r : Option Res} (hdn : d < n) (h : ValW P s d op (fun q' r' => q' = q ∧ r' = r)) (hf : r.isSome = true → s.free d = true) : StepW P n (some d) s op (fun s' => s' = app1 d q r s) := by
  unfold ValW at h
  unfold StepW PS.step
  simp only [if_pos hdn]
  split at h
  · rename_i q' hq
    obtain ⟨rfl, rfl⟩ := h
    simp only [hq]
    rfl
  · rename_i hq
    simp only [hq]
    split at h
    · rename_i b r' hn
      obtain ⟨rfl, rfl⟩ := h
      rw [newVal_new hn (hf rfl)]
      rfl
    · exact h.elim

theorem CallE.callW {s : StL} {d : Nat} {f : FuncId} {pvs : List PV} {q : PV} {r : Option Res} (hdn : d < n) (h : CallE P s d f pvs (fun q' r' => q' = q ∧ r' = r)) (hf : r.isSome = true → s.free d = true) : CallW P n (some d) s f pvs (fun s' => s' = app1 d q r s) := by
  unfold CallE at h
  unfold CallW
  refine ⟨hdn, ?_⟩
  split at h
  · exact h.elim
  · rename_i b tls hl
    obtain ⟨r0, Mr, h1, h2, h3⟩ := h
    refine .inl ?_
    rw [hl]
    split at h3
    · obtain ⟨h4, rfl, rfl⟩ := h3
      refine ⟨r0, [], h1, h2, ?_⟩
      simp only [retS, h4, if_true]
      rfl
    · rename_i res
      obtain ⟨h4, rfl, rfl⟩ := h3
      refine ⟨r0, [(0, res)], h1, h2, ?_⟩
      simp only [retS]
      rw [if_pos ⟨h4.1, h4.2, hf rfl⟩]
      rfl
    · exact h3.elim

theorem effW_wpOp {s : StL} {i : Nat} {o : Oper} {d : Nat} {q : PV} {r : Option Res} {K : Act → World → Prop} {Q : Exit → Act → World → Prop} (hi : ops[i]? = some o) (hd : o.dst = some d) (hdn : d < n) (h : Sim w0 F0 n s a w)
    (he : EffW P ops o d s (fun q' r' => q' = q ∧ r' = r)) (hf : r.isSome = true → s.free d = true) (hk : ∀ a' w', Sim w0 F0 n (app1 d q r s) a' w' → K a' w') : wpOp P ops Q i K a w := by
  unfold wpOp
  rw [hi]
  simp only
  unfold EffW at he
  have hop : ∀ x, OpW P n (some d) s x (fun s' => s' = app1 d q r s) → o.op = x → o.wp P a w K Q := by
    intro x hx hox
    refine opW_wp (P := P) (n := n) (K := fun s' => s' = app1 d q r s) h (by rw [hd, hox]; exact hx) fun s' a' w' hs' hsim => ?_
    subst hs'
    exact hk _ _ hsim
  split at he
  · rename_i hw
    rw [want_rep h hw, if_pos rfl]
    left
    split at he
    · rename_i c hc
      refine hop (.call c) ?_ hc
      unfold OpW
      split at he
      · rename_i hcal
        simp only [hcal]
        exact he.callW hdn hf
      · rename_i hcal
        simp only [hcal]
        exact he.step hdn hf
    · rename_i hnc
      refine hop o.op ?_ rfl
      unfold OpW
      split
      · rename_i c hc
        exact absurd hc (hnc c)
      · exact he.step hdn hf
  · rename_i hw
    obtain ⟨rfl, rfl⟩ := he
    rw [want_rep h hw, if_neg (by simp)]
    refine hk _ _ ?_
    have := skip_sim h o.dst (fun d' hd' => by rw [hd] at hd'; cases hd'; exact hdn)
    rw [hd] at this ⊢
    exact this
  · exact he.elim

/-! The plan: what each operation gives, in the order of the text. -/

def stOf (e : Nat → PV × Option Res) (dst : Nat → Nat) (s0 : StL) : List Nat → StL
  | [] => s0
  | j :: l => app1 (dst j) (e j).1 (e j).2 (stOf e dst s0 l)

def desc : Nat → List Nat
  | 0 => []
  | j + 1 => j :: desc j

theorem mem_desc : ∀ {i j : Nat}, j ∈ desc i ↔ j < i
  | 0, j => by simp [desc]
  | i + 1, j => by simp only [desc, List.mem_cons, mem_desc]; omega

theorem stOf_congr {e e' : Nat → PV × Option Res} {dst : Nat → Nat} {s0 : StL} : ∀ {l : List Nat}, (∀ j ∈ l, e j = e' j) → stOf e dst s0 l = stOf e' dst s0 l
  | [], _ => rfl
  | j :: l, h => by
    simp only [stOf, h j (by simp), stOf_congr (l := l) fun k hk => h k (List.mem_cons_of_mem _ hk)]

def dstAt (ops : Array Oper) (j : Nat) : Nat := ((ops[j]?).bind (·.dst)).getD 0

/-- The plan's line j. -/
def GoodAt (P : Program) (n : Nat) (ops : Array Oper) (As : List Nat) (e : Nat → PV × Option Res) (s0 : StL) (j : Nat) : Prop :=
  ∃ o d, ops[j]? = some o ∧ o.dst = some d ∧ d < n ∧ EffW P ops o d (stOf e (dstAt ops) s0 (desc j)) (fun q r => q = (e j).1 ∧ r = (e j).2) ∧
    ((e j).2.isSome = true → As.contains j = true ∧ (stOf e (dstAt ops) s0 (desc j)).free d = true)

theorem drawW_plan {m : Nat} {As : List Nat} {s0 : StL} {K : StL → Prop} (hm : m ≤ ops.size) : ∀ (k i : Nat) (e0 : Nat → PV × Option Res), i + k = m → DrawW P n ops m As i (ops.toList.drop i) (stOf e0 (dstAt ops) s0 (desc i)) K →
    ∃ e, (∀ j, j < i → e j = e0 j) ∧ (∀ j, i ≤ j → j < m → GoodAt P n ops As e s0 j) ∧ RunW P n ops (ops.toList.drop m) (stOf e (dstAt ops) s0 (desc m)) K
  | 0, i, e0, hk, h => by
    have : i = m := by omega
    subst this
    refine ⟨e0, fun _ _ => rfl, fun j h1 h2 => by omega, ?_⟩
    cases hl : ops.toList.drop i with
    | nil => rw [hl] at h; exact h
    | cons o rest =>
      rw [hl] at h
      simp only [DrawW] at h
      rwa [if_neg (by omega)] at h
  | k + 1, i, e0, hk, h => by
    have hi : i < ops.size := by omega
    have hdrop : ops.toList.drop i = ops[i] :: ops.toList.drop (i + 1) := by
      rw [List.drop_eq_getElem_cons (by simpa using hi)]
      simp
    rw [hdrop] at h
    simp only [DrawW] at h
    rw [if_pos (by omega)] at h
    split at h
    · exact h.elim
    · rename_i d hd
      obtain ⟨hdn, h⟩ := h
      obtain ⟨q, r, ⟨hres, hrest⟩, heff⟩ := h.pick
      have hda : dstAt ops i = d := by simp [dstAt, hi, hd]
      let e1 : Nat → PV × Option Res := fun j => if j = i then (q, r) else e0 j
      have he1 : ∀ j, j < i → e1 j = e0 j := fun j hj => by simp [e1, Nat.ne_of_lt hj]
      have hst : stOf e1 (dstAt ops) s0 (desc i) = stOf e0 (dstAt ops) s0 (desc i) := stOf_congr fun j hj => he1 j (mem_desc.1 hj)
      have hst' : stOf e1 (dstAt ops) s0 (desc (i + 1)) = app1 d q r (stOf e0 (dstAt ops) s0 (desc i)) := by
        simp only [desc, stOf, hst, hda]
        simp [e1]
      rw [← hst'] at hrest
      obtain ⟨e, h1, h2, h3⟩ := drawW_plan hm k (i + 1) e1 (by omega) hrest
      refine ⟨e, fun j hj => (h1 j (by omega)).trans (he1 j hj), fun j hj1 hj2 => ?_, h3⟩
      by_cases e' : j = i
      · subst e'
        have hei : e j = (q, r) := by rw [h1 j (by omega)]; simp [e1]
        have hst2 : stOf e (dstAt ops) s0 (desc j) = stOf e0 (dstAt ops) s0 (desc j) := stOf_congr fun k hk => (h1 k (by have := mem_desc.1 hk; omega)).trans (he1 k (mem_desc.1 hk))
        refine ⟨ops[j], d, by simp [hi], hd, hdn, ?_, ?_⟩
        · rw [hst2, hei]; exact heff
        · rw [hst2, hei]; exact hres
      · exact h2 j (by omega) hj2

/-! The static side. -/

def maskOf (D : List Nat) (o : Oper) : Nat := o.after.toList.foldl (fun m e => if Region.binds .any e then m ||| 2 ^ e.on ||| D.getD e.on 0 else m) 0
def depsOf (ops : Array Oper) : List Nat := ops.toList.foldl (fun D o => D ++ [maskOf D o]) []
def dep (D : List Nat) (j i : Nat) : Bool := (D.getD i 0).testBit j

def drawOk (ops : Array Oper) (m : Nat) (As : List Nat) (D : List Nat) : Bool :=
  decide (m ≤ ops.size) &&
  (List.range ops.size).all (fun i => match ops[i]? with
    | none => false
    | some o => o.after.toList.all (fun e => !Region.binds .any e || decide (e.on < i)) && (D.getD i 0 == maskOf D o) &&
        (if i < m then
          (o.dst.isSome && (o.looksAt ops).all (fun t => (List.range m).all fun j => (dstAt ops j != t) || j == i || (if j < i then dep D j i else dep D i j)) &&
            (List.range i).all (fun j => dstAt ops j != dstAt ops i) && (!As.contains i || (List.range m).all fun j => decide (j ≤ i) || dep D i j))
        else (List.range i).all fun j => dep D j i))


end
end Go.PS
