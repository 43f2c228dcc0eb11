import Derived.Test.YtmneioafbkknhaaPS20
/- PS21: the walk as a reckoning: one word for a state of the walk, rewritten by simp, that stops at calls, branches, loops and draws. -/
set_option linter.unusedVariables false
set_option linter.unusedSimpArgs false
namespace Go.PS
open Go Go.RowKit

def boolPV : PV → Option Bool
  | .t _ (.v (.bool b)) => some b
  | _ => none
@[simp] theorem boolPV_t (k : Kind) (b : Bool) : boolPV (.t k (.v (.bool b))) = some b := rfl

/-- A mark on a continuation: what it marks simp does not look at (the mark's type speaks of it). -/
structure Wit {α : Sort _} (a : α) : Type where
  mk ::

/-- A branch. -/
def condX (o : Option Bool) (A B : Prop) (wA : Wit A) (wB : Wit B) : Prop :=
  match o with
  | some b => (b = true → A) ∧ (b = false → B)
  | none => False
@[simp] theorem condX_true (A B : Prop) (wA : Wit A) (wB : Wit B) : condX (some true) A B wA wB = A := by simp only [condX, true_implies, Bool.true_eq_false, false_implies, and_true]
@[simp] theorem condX_false (A B : Prop) (wA : Wit A) (wB : Wit B) : condX (some false) A B wA wB = B := by simp only [condX, true_implies, Bool.false_eq_true, false_implies, true_and]
@[simp] theorem condX_none (A B : Prop) (wA : Wit A) (wB : Wit B) : condX none A B wA wB = False := rfl
theorem condX_of {b : Bool} {A B : Prop} {wA : Wit A} {wB : Wit B} (h1 : b = true → A) (h2 : b = false → B) : condX (some b) A B wA wB := ⟨h1, h2⟩
theorem condX_dec {p : Prop} [Decidable p] {A B : Prop} {wA : Wit A} {wB : Wit B} (h1 : p → A) (h2 : ¬ p → B) : condX (some (decide p)) A B wA wB := ⟨fun h => h1 (by simpa using h), fun h => h2 (by simpa using h)⟩
theorem condX_ndec {p : Prop} [Decidable p] {A B : Prop} {wA : Wit A} {wB : Wit B} (h1 : ¬ p → A) (h2 : p → B) : condX (some (!decide p)) A B wA wB := ⟨fun h => h1 (by simpa using h), fun h => h2 (by simpa using h)⟩

/-- A state, if there is one. -/
def optS (o : Option StL) (K : StL → Prop) (wK : Wit K) : Prop :=
  match o with
  | some s => K s
  | none => False
@[simp] theorem optS_some (s : StL) (K : StL → Prop) (wK : Wit K) : optS (some s) K wK = K s := rfl
@[simp] theorem optS_none (K : StL → Prop) (wK : Wit K) : optS none K wK = False := rfl

section
variable {P : Program} {n : Nat}

/-- A call that waits for a contract. -/
def CallG (P : Program) (s : StL) (d : Nat) (f : FuncId) (pvs : List PV) (b : Bool) (tls : List TL) (K : StL → Prop) (wK : Wit K) : Prop :=
  (∃ r Mr, PCall P f tls r Mr ∧ (b = true → r.noRo = true ∧ Mr.all (fun p => p.2.noRo) = true) ∧ optS (retS s d r Mr) K ⟨⟩) ∨ ECallW P s d f pvs K
theorem CallG.by {s : StL} {d : Nat} {f : FuncId} {pvs : List PV} {b : Bool} {tls : List TL} {K : StL → Prop} {wK : Wit K} {r : PV} {Mr : List (Nat × Res)} (h : PCall P f tls r Mr)
    (h2 : (b = true → r.noRo = true ∧ Mr.all (fun p => p.2.noRo) = true) ∧ optS (retS s d r Mr) K ⟨⟩) : CallG P s d f pvs b tls K wK := .inl ⟨r, Mr, h, h2⟩
/-- A call that waits for a contract of what may be changed. -/
def CallN (P : Program) (s : StL) (d : Nat) (f : FuncId) (pvs : List PV) (K : StL → Prop) (wK : Wit K) : Prop := ECallW P s d f pvs K
theorem CallG.on {s : StL} {d : Nat} {f : FuncId} {pvs args : List PV} {b : Bool} {tls : List TL} {K : StL → Prop} {wK : Wit K} {r : PV} {M M' : List (Nat × Res)} (g : Sg) (h : ECall P f args M r M')
    (h1 : g.ok = true) (h2 : PV.mpL g.to true pvs = args) (h3 : ∀ p ∈ g, getM M p.2 = (getM s.M p.1).mp g.to true) (h4 : M.all (fun q => (g.bk q.1).isSome) = true) (h5 : optS (some (retE s d g r M')) K ⟨⟩) : CallG P s d f pvs b tls K wK :=
  .inr ⟨g, args, M, r, M', h, h1, h2, h3, h4, h5⟩
theorem CallN.on {s : StL} {d : Nat} {f : FuncId} {pvs args : List PV} {K : StL → Prop} {wK : Wit K} {r : PV} {M M' : List (Nat × Res)} (g : Sg) (h : ECall P f args M r M')
    (h1 : g.ok = true) (h2 : PV.mpL g.to true pvs = args) (h3 : ∀ p ∈ g, getM M p.2 = (getM s.M p.1).mp g.to true) (h4 : M.all (fun q => (g.bk q.1).isSome) = true) (h5 : optS (some (retE s d g r M')) K ⟨⟩) : CallN P s d f pvs K wK :=
  ⟨g, args, M, r, M', h, h1, h2, h3, h4, h5⟩

def callX (P : Program) (s : StL) (d : Nat) (f : FuncId) (pvs : List PV) (o : Option (Bool × List TL)) (K : StL → Prop) (wK : Wit K) : Prop :=
  match o with
  | some (b, tls) => CallG P s d f pvs b tls K ⟨⟩
  | none => CallN P s d f pvs K ⟨⟩
@[simp] theorem callX_some (s : StL) (d : Nat) (f : FuncId) (pvs : List PV) (b : Bool) (tls : List TL) (K : StL → Prop) (wK : Wit K) : callX P s d f pvs (some (b, tls)) K wK = CallG P s d f pvs b tls K ⟨⟩ := rfl
@[simp] theorem callX_none (s : StL) (d : Nat) (f : FuncId) (pvs : List PV) (K : StL → Prop) (wK : Wit K) : callX P s d f pvs none K wK = CallN P s d f pvs K ⟨⟩ := rfl

theorem CallW_eq (d : Nat) (s : StL) (f : FuncId) (pvs : List PV) (K : StL → Prop) : CallW P n (some d) s f pvs K = (d < n ∧ callX P s d f pvs (optL (lendPV 5 s) pvs) K ⟨⟩) := by
  unfold CallW
  cases h : optL (lendPV 5 s) pvs with
  | none => simp only [h, callX, CallN, false_or]
  | some p =>
    obtain ⟨b, tls⟩ := p
    simp only [h, callX, CallG]
    rfl

/-- The callee of a call. -/
def calleeX (P : Program) (n : Nat) (dst : Option Nat) (s : StL) (c : Call) (o : Option (FuncId × List PV)) (K : StL → Prop) (wK : Wit K) : Prop :=
  match o with
  | some (f, pvs) => CallW P n dst s f pvs K
  | none => optS (step P n dst s (.call c)) K ⟨⟩
@[simp] theorem calleeX_some (dst : Option Nat) (s : StL) (c : Call) (f : FuncId) (pvs : List PV) (K : StL → Prop) (wK : Wit K) : calleeX P n dst s c (some (f, pvs)) K wK = CallW P n dst s f pvs K := rfl
@[simp] theorem calleeX_none (dst : Option Nat) (s : StL) (c : Call) (K : StL → Prop) (wK : Wit K) : calleeX P n dst s c none K wK = optS (step P n dst s (.call c)) K ⟨⟩ := rfl

theorem StepW_eq (dst : Option Nat) (s : StL) (op : Op) (K : StL → Prop) : StepW P n dst s op K = optS (step P n dst s op) K ⟨⟩ := by
  unfold StepW optS
  cases step P n dst s op <;> rfl

/-- An operation. -/
def opX (P : Program) (n : Nat) (dst : Option Nat) (s : StL) (op : Op) (K : StL → Prop) (wK : Wit K) : Prop :=
  match op with
  | .call c => calleeX P n dst s c (callee s c) K ⟨⟩
  | op => optS (step P n dst s op) K ⟨⟩
theorem OpW_eq (dst : Option Nat) (s : StL) (op : Op) (K : StL → Prop) : OpW P n dst s op K = opX P n dst s op K ⟨⟩ := by
  cases op with
  | call c =>
    show (match callee s c with
      | some (f, pvs) => CallW P n dst s f pvs K
      | none => StepW P n dst s (.call c) K) = calleeX P n dst s c (callee s c) K ⟨⟩
    unfold calleeX
    cases callee s c with
    | none => exact StepW_eq _ _ _ _
    | some p => rfl
  | _ => exact StepW_eq _ _ _ _

theorem CallW_mono {dst : Option Nat} {s : StL} {f : FuncId} {pvs : List PV} {K K' : StL → Prop} (h : CallW P n dst s f pvs K) (hK : ∀ s, K s → K' s) : CallW P n dst s f pvs K' := by
  cases dst with
  | none => exact h
  | some d =>
    rw [CallW_eq] at h ⊢
    refine ⟨h.1, ?_⟩
    have h2 := h.2
    generalize optL (lendPV 5 s) pvs = o at h2
    cases o with
    | none => exact ECallW.mono h2 hK
    | some p =>
      obtain ⟨b, tls⟩ := p
      rcases h2 with ⟨r, Mr, h1, h3, h4⟩ | h2
      · refine .inl ⟨r, Mr, h1, h3, ?_⟩
        generalize retS s d r Mr = z at h4
        cases z with
        | none => exact h4
        | some z => exact hK _ h4
      · exact .inr (h2.mono hK)

theorem optS_mono {o : Option StL} {K K' : StL → Prop} {wK : Wit K} {wK' : Wit K'} (h : optS o K wK) (hK : ∀ s, K s → K' s) : optS o K' wK' := by
  cases o with
  | none => exact h
  | some z => exact hK _ h

theorem opX_mono {dst : Option Nat} {s : StL} {op : Op} {K K' : StL → Prop} {w : Wit K} {w' : Wit K'} (h : opX P n dst s op K w) (hK : ∀ s, K s → K' s) : opX P n dst s op K' w' := by
  cases op with
  | call c =>
    have h' : calleeX P n dst s c (callee s c) K ⟨⟩ := h
    show calleeX P n dst s c (callee s c) K' ⟨⟩
    unfold calleeX at h' ⊢
    cases hc : callee s c with
    | none => rw [hc] at h'; exact optS_mono h' hK
    | some p => rw [hc] at h'; exact CallW_mono h' hK
  | _ => exact optS_mono (wK := ⟨⟩) (wK' := ⟨⟩) h hK

theorem RunW_nil (ops : Array Oper) (s : StL) (K : StL → Prop) : RunW P n ops [] s K = K s := rfl
theorem RunW_cons (ops : Array Oper) (o : Oper) (l : List Oper) (s : StL) (K : StL → Prop) :
    RunW P n ops (o :: l) s K = condX (wantPV ops s o) (opX P n o.dst s o.op (fun s' => RunW P n ops l s' K) ⟨⟩) ((∀ d, o.dst = some d → d < n) ∧ RunW P n ops l (skipS s o.dst) K) ⟨⟩ ⟨⟩ := by
  conv => lhs; unfold RunW
  cases h : wantPV ops s o with
  | none => rfl
  | some b =>
    cases b
    · simp only [condX_false]
    · simp only [condX_true, OpW_eq]

theorem condX_mono {o : Option Bool} {A B A' B' : Prop} {wA : Wit A} {wB : Wit B} {wA' : Wit A'} {wB' : Wit B'} (h : condX o A B wA wB) (hA : A → A') (hB : B → B') : condX o A' B' wA' wB' := by
  cases o with
  | none => exact h
  | some b => exact ⟨fun e => hA (h.1 e), fun e => hB (h.2 e)⟩

theorem runW_mono {ops : Array Oper} : ∀ {l : List Oper} {s : StL} {K K' : StL → Prop}, RunW P n ops l s K → (∀ s, K s → K' s) → RunW P n ops l s K'
  | [], s, K, K', h, hK => hK _ h
  | o :: l, s, K, K', h, hK => by
    rw [RunW_cons] at h ⊢
    exact condX_mono h (fun h => opX_mono h fun s' h' => runW_mono h' hK) (fun h => ⟨h.1, runW_mono h.2 hK⟩)

/-- The value of an operation that a draw may move. -/
def valX (o : Option PV) (o2 : Option (Bool × Res)) (d : Nat) (K : PV → Option Res → Prop) (wK : Wit K) : Prop :=
  match o with
  | some q => K q none
  | none => match o2 with
    | some (b, r) => K (if b then .ptr d 0 else .osl d) (some r)
    | none => False
@[simp] theorem valX_some (q : PV) (o2 : Option (Bool × Res)) (d : Nat) (K : PV → Option Res → Prop) (wK : Wit K) : valX (some q) o2 d K wK = K q none := rfl
@[simp] theorem valX_blk (r : Res) (d : Nat) (K : PV → Option Res → Prop) (wK : Wit K) : valX none (some (true, r)) d K wK = K (.ptr d 0) (some r) := rfl
@[simp] theorem valX_row (r : Res) (d : Nat) (K : PV → Option Res → Prop) (wK : Wit K) : valX none (some (false, r)) d K wK = K (.osl d) (some r) := rfl
theorem ValW_eq (s : StL) (d : Nat) (op : Op) (K : PV → Option Res → Prop) : ValW P s d op K = valX (valOp P s op) (newVal P s op) d K ⟨⟩ := by
  unfold ValW valX
  cases valOp P s op with
  | none => cases newVal P s op <;> rfl
  | some q => rfl

/-- A call that a draw may move, waiting for a contract. -/
def CallGE (P : Program) (d : Nat) (f : FuncId) (b : Bool) (tls : List TL) (K : PV → Option Res → Prop) (wK : Wit K) : Prop :=
  ∃ r Mr, PCall P f tls r Mr ∧ (b = true → r.noRo = true ∧ Mr.all (fun p => p.2.noRo) = true) ∧ match Mr with
    | [] => r.nm false 0 = true ∧ K (r.ren d) none
    | [(0, res)] => (r.nm true 0 = true ∧ res.nm true 0 = true) ∧ K (r.ren d) (some (res.ren d))
    | _ => False
theorem CallGE.by {d : Nat} {f : FuncId} {b : Bool} {tls : List TL} {K : PV → Option Res → Prop} {wK : Wit K} {r : PV} (h : PCall P f tls r [])
    (h2 : (b = true → r.noRo = true) ∧ r.nm false 0 = true ∧ K (r.ren d) none) : CallGE P d f b tls K wK := ⟨r, [], h, fun hb => ⟨h2.1 hb, rfl⟩, h2.2⟩
theorem CallGE.by1 {d : Nat} {f : FuncId} {b : Bool} {tls : List TL} {K : PV → Option Res → Prop} {wK : Wit K} {r : PV} {res : Res} (h : PCall P f tls r [(0, res)])
    (h2 : (b = true → r.noRo = true ∧ res.noRo = true) ∧ (r.nm true 0 = true ∧ res.nm true 0 = true) ∧ K (r.ren d) (some (res.ren d))) : CallGE P d f b tls K wK :=
  ⟨r, _, h, fun hb => ⟨(h2.1 hb).1, by simpa only [List.all_cons, List.all_nil, Bool.and_true] using (h2.1 hb).2⟩, h2.2⟩
def callEX (P : Program) (d : Nat) (f : FuncId) (o : Option (Bool × List TL)) (K : PV → Option Res → Prop) (wK : Wit K) : Prop :=
  match o with
  | some (b, tls) => CallGE P d f b tls K ⟨⟩
  | none => False
@[simp] theorem callEX_some (d : Nat) (f : FuncId) (b : Bool) (tls : List TL) (K : PV → Option Res → Prop) (wK : Wit K) : callEX P d f (some (b, tls)) K wK = CallGE P d f b tls K ⟨⟩ := rfl
@[simp] theorem callEX_none (d : Nat) (f : FuncId) (K : PV → Option Res → Prop) (wK : Wit K) : callEX P d f none K wK = False := rfl
theorem CallE_eq (s : StL) (d : Nat) (f : FuncId) (pvs : List PV) (K : PV → Option Res → Prop) : CallE P s d f pvs K = callEX P d f (optL (lendPV 5 s) pvs) K ⟨⟩ := by
  unfold CallE callEX
  cases optL (lendPV 5 s) pvs with
  | none => rfl
  | some p => rfl
def calleeEX (P : Program) (s : StL) (d : Nat) (c : Call) (o : Option (FuncId × List PV)) (K : PV → Option Res → Prop) (wK : Wit K) : Prop :=
  match o with
  | some (f, pvs) => callEX P d f (optL (lendPV 5 s) pvs) K ⟨⟩
  | none => valX (valOp P s (.call c)) (newVal P s (.call c)) d K ⟨⟩
@[simp] theorem calleeEX_some (s : StL) (d : Nat) (c : Call) (f : FuncId) (pvs : List PV) (K : PV → Option Res → Prop) (wK : Wit K) : calleeEX P s d c (some (f, pvs)) K wK = callEX P d f (optL (lendPV 5 s) pvs) K ⟨⟩ := rfl
@[simp] theorem calleeEX_none (s : StL) (d : Nat) (c : Call) (K : PV → Option Res → Prop) (wK : Wit K) : calleeEX P s d c none K wK = valX (valOp P s (.call c)) (newVal P s (.call c)) d K ⟨⟩ := rfl
def effX (P : Program) (s : StL) (d : Nat) (op : Op) (K : PV → Option Res → Prop) (wK : Wit K) : Prop :=
  match op with
  | .call c => calleeEX P s d c (callee s c) K ⟨⟩
  | op => valX (valOp P s op) (newVal P s op) d K ⟨⟩
theorem EffW_eq (ops : Array Oper) (o : Oper) (d : Nat) (s : StL) (K : PV → Option Res → Prop) : EffW P ops o d s K = condX (wantPV ops s o) (effX P s d o.op K ⟨⟩) (K skipPV none) ⟨⟩ ⟨⟩ := by
  have key : (match o.op with
    | .call c => match callee s c with
      | some (f, pvs) => CallE P s d f pvs K
      | none => ValW P s d (.call c) K
    | op => ValW P s d op K) = effX P s d o.op K ⟨⟩ := by
    cases o.op with
    | call c =>
      show (match callee s c with
        | some (f, pvs) => CallE P s d f pvs K
        | none => ValW P s d (.call c) K) = calleeEX P s d c (callee s c) K ⟨⟩
      unfold calleeEX
      cases callee s c with
      | none => exact ValW_eq _ _ _ _
      | some p => exact CallE_eq _ _ _ _ _
    | _ => exact ValW_eq _ _ _ _
  unfold EffW
  cases h : wantPV ops s o with
  | none => rfl
  | some b =>
    cases b
    · simp only [condX_false]
    · simp only [condX_true]
      exact key
theorem DrawW_nil (ops : Array Oper) (m : Nat) (As : List Nat) (i : Nat) (s : StL) (K : StL → Prop) : DrawW P n ops m As i [] s K = K s := rfl
/-- One operation more. -/
def drawX0 (P : Program) (n : Nat) (ops : Array Oper) (m : Nat) (As : List Nat) (i : Nat) (o : Oper) (l : List Oper) (s : StL) (K : StL → Prop) (b : Bool) : Prop :=
  match b with
  | true => match o.dst with
    | none => False
    | some d => d < n ∧ condX (wantPV ops s o) (effX P s d o.op (fun q res => (res.isSome = true → As.contains i = true ∧ s.free d = true) ∧ DrawW P n ops m As (i + 1) l (app1 d q res s) K) ⟨⟩)
        (DrawW P n ops m As (i + 1) l (app1 d skipPV none s) K) ⟨⟩ ⟨⟩
  | false => RunW P n ops (o :: l) s K
theorem DrawW_cons (ops : Array Oper) (m : Nat) (As : List Nat) (i : Nat) (o : Oper) (l : List Oper) (s : StL) (K : StL → Prop) : DrawW P n ops m As i (o :: l) s K = drawX0 P n ops m As i o l s K (decide (i < m)) := by
  conv => lhs; unfold DrawW
  by_cases h : i < m
  · rw [if_pos h, decide_eq_true h]
    unfold drawX0
    cases o.dst with
    | none => rfl
    | some d =>
      simp only [EffW_eq]
      cases wantPV ops s o with
      | none => rfl
      | some b => cases b <;> simp only [condX_true, condX_false, Option.isSome_none, Bool.false_eq_true, false_implies, true_and]
  · rw [if_neg h, decide_eq_false h]
    rfl

theorem effX_mono {s : StL} {d : Nat} {op : Op} {K K' : PV → Option Res → Prop} {w : Wit K} {w' : Wit K'} (h : effX P s d op K w) (hK : ∀ q r, K q r → K' q r) : effX P s d op K' w' := by
  have hv : ∀ (op : Op), valX (valOp P s op) (newVal P s op) d K ⟨⟩ → valX (valOp P s op) (newVal P s op) d K' ⟨⟩ := by
    intro op h
    generalize valOp P s op = o at h
    generalize newVal P s op = o2 at h
    cases o with
    | some q => exact hK _ _ h
    | none => cases o2 with
      | none => exact h
      | some p => exact hK _ _ h
  by_cases hc : ∃ c, op = .call c
  · obtain ⟨c, rfl⟩ := hc
    have h' : calleeEX P s d c (callee s c) K ⟨⟩ := h
    show calleeEX P s d c (callee s c) K' ⟨⟩
    cases hc : callee s c with
    | none => rw [hc] at h'; exact hv _ h'
    | some p =>
      rw [hc] at h'
      obtain ⟨f, pvs⟩ := p
      have h2 : callEX P d f (optL (lendPV 5 s) pvs) K ⟨⟩ := h'
      show callEX P d f (optL (lendPV 5 s) pvs) K' ⟨⟩
      generalize optL (lendPV 5 s) pvs = o at h2
      cases o with
      | none => exact h2
      | some p =>
        obtain ⟨b, tls⟩ := p
        obtain ⟨r, Mr, h1, h3, h4⟩ := h2
        refine ⟨r, Mr, h1, h3, ?_⟩
        split at h4
        · exact ⟨h4.1, hK _ _ h4.2⟩
        · exact ⟨h4.1, hK _ _ h4.2⟩
        · exact h4.elim
  · have e : ∀ K (w : Wit K), effX P s d op K w = valX (valOp P s op) (newVal P s op) d K ⟨⟩ := by
      intro K w
      cases op <;> first
        | rfl
        | exact absurd ⟨_, rfl⟩ hc
    rw [e] at h ⊢
    exact hv op h

theorem drawW_mono {ops : Array Oper} {m : Nat} {As : List Nat} : ∀ {l : List Oper} {i : Nat} {s : StL} {K K' : StL → Prop}, DrawW P n ops m As i l s K → (∀ s, K s → K' s) → DrawW P n ops m As i l s K'
  | [], i, s, K, K', h, hK => hK _ h
  | o :: l, i, s, K, K', h, hK => by
    rw [DrawW_cons] at h ⊢
    cases hb : decide (i < m) with
    | false => rw [hb] at h; exact runW_mono (h : RunW P n ops (o :: l) s K) hK
    | true =>
      rw [hb] at h
      unfold drawX0 at h ⊢
      cases hd : o.dst with
      | none => rw [hd] at h; exact h
      | some d =>
        rw [hd] at h
        exact ⟨h.1, condX_mono h.2 (fun h => effX_mono h fun q r h => ⟨h.1, drawW_mono h.2 hK⟩) (fun h => drawW_mono h hK)⟩

/-- The rest of a region. -/
def RunG (P : Program) (n : Nat) (ops : Array Oper) (l : List Oper) (s : StL) (K : StL → Prop) (wo : Wit ops) (wK : Wit (l, K)) : Prop := RunW P n ops l s K
@[simp ↓] theorem RunG_nil (ops : Array Oper) (s : StL) (K : StL → Prop) (wo : Wit ops) (wK : Wit (([] : List Oper), K)) : RunG P n ops [] s K wo wK = K s := rfl
@[simp ↓] theorem RunG_cons (ops : Array Oper) (o : Oper) (l : List Oper) (s : StL) (K : StL → Prop) (wo : Wit ops) (wK : Wit (o :: l, K)) :
    RunG P n ops (o :: l) s K wo wK = condX (wantPV ops s o) (opX P n o.dst s o.op (fun s' => RunG P n ops l s' K ⟨⟩ ⟨⟩) ⟨⟩) ((∀ d, o.dst = some d → d < n) ∧ RunG P n ops l (skipS s o.dst) K ⟨⟩ ⟨⟩) ⟨⟩ ⟨⟩ := RunW_cons ops o l s K
/-- The rest of a region that draws. -/
def DrawL (P : Program) (n : Nat) (ops : Array Oper) (m : Nat) (As : List Nat) (i : Nat) (l : List Oper) (s : StL) (K : StL → Prop) (wo : Wit (ops, As)) (wK : Wit (l, K)) : Prop := DrawW P n ops m As i l s K
@[simp ↓] theorem DrawL_nil (ops : Array Oper) (m : Nat) (As : List Nat) (i : Nat) (s : StL) (K : StL → Prop) (wo : Wit (ops, As)) (wK : Wit (([] : List Oper), K)) : DrawL P n ops m As i [] s K wo wK = K s := rfl
/-- One operation more. -/
def drawX (P : Program) (n : Nat) (ops : Array Oper) (m : Nat) (As : List Nat) (i : Nat) (o : Oper) (l : List Oper) (s : StL) (K : StL → Prop) (wo : Wit (ops, As)) (wK : Wit (o, l, K)) (b : Bool) : Prop :=
  match b with
  | true => drawY P n ops m As i o l s K wo wK o.dst
  | false => RunG P n ops (o :: l) s K ⟨⟩ ⟨⟩
where drawY (P : Program) (n : Nat) (ops : Array Oper) (m : Nat) (As : List Nat) (i : Nat) (o : Oper) (l : List Oper) (s : StL) (K : StL → Prop) (wo : Wit (ops, As)) (wK : Wit (o, l, K)) (dst : Option Nat) : Prop :=
  match dst with
  | none => False
  | some d => d < n ∧ condX (wantPV ops s o) (effX P s d o.op (fun q res => (res.isSome = true → As.contains i = true ∧ s.free d = true) ∧ DrawL P n ops m As (i + 1) l (app1 d q res s) K ⟨⟩ ⟨⟩) ⟨⟩)
        (DrawL P n ops m As (i + 1) l (app1 d skipPV none s) K ⟨⟩ ⟨⟩) ⟨⟩ ⟨⟩
@[simp ↓] theorem DrawL_cons (ops : Array Oper) (m : Nat) (As : List Nat) (i : Nat) (o : Oper) (l : List Oper) (s : StL) (K : StL → Prop) (wo : Wit (ops, As)) (wK : Wit (o :: l, K)) :
    DrawL P n ops m As i (o :: l) s K wo wK = drawX P n ops m As i o l s K ⟨⟩ ⟨⟩ (decide (i < m)) := by
  show DrawW P n ops m As i (o :: l) s K = _
  rw [DrawW_cons]
  cases decide (i < m) with
  | false => rfl
  | true =>
    show drawX0 P n ops m As i o l s K true = drawX.drawY P n ops m As i o l s K ⟨⟩ ⟨⟩ o.dst
    unfold drawX0 drawX.drawY
    cases o.dst <;> rfl
@[simp] theorem drawX_true (ops : Array Oper) (m : Nat) (As : List Nat) (i : Nat) (o : Oper) (l : List Oper) (s : StL) (K : StL → Prop) (wo : Wit (ops, As)) (wK : Wit (o, l, K)) : drawX P n ops m As i o l s K wo wK true = drawX.drawY P n ops m As i o l s K wo wK o.dst := rfl
@[simp] theorem drawX_false (ops : Array Oper) (m : Nat) (As : List Nat) (i : Nat) (o : Oper) (l : List Oper) (s : StL) (K : StL → Prop) (wo : Wit (ops, As)) (wK : Wit (o, l, K)) : drawX P n ops m As i o l s K wo wK false = RunG P n ops (o :: l) s K ⟨⟩ ⟨⟩ := rfl
@[simp] theorem drawY_some (ops : Array Oper) (m : Nat) (As : List Nat) (i : Nat) (o : Oper) (l : List Oper) (s : StL) (K : StL → Prop) (wo : Wit (ops, As)) (wK : Wit (o, l, K)) (d : Nat) : drawX.drawY P n ops m As i o l s K wo wK (some d) =
   (d < n ∧ condX (wantPV ops s o) (effX P s d o.op (fun q res => (res.isSome = true → As.contains i = true ∧ s.free d = true) ∧ DrawL P n ops m As (i + 1) l (app1 d q res s) K ⟨⟩ ⟨⟩) ⟨⟩)
        (DrawL P n ops m As (i + 1) l (app1 d skipPV none s) K ⟨⟩ ⟨⟩) ⟨⟩ ⟨⟩) := rfl

/-- What comes behind. -/
def SeqK (f : StL → (Exit → StL → Prop) → Prop) (Q : Exit → StL → Prop) : Exit → StL → Prop
  | .normal, s => f s Q
  | e, s => Q e s
def BlkK (id : Nat) (Q : Exit → StL → Prop) : Exit → StL → Prop
  | .exit id', s => if id' = id then Q .normal s else Q (.exit id') s
  | e, s => Q e s
def NormK (Q : Exit → StL → Prop) : StL → Prop := Q .normal

def LoopG (P : Program) (n : Nat) (c : Code) (s : StL) (Q : Exit → StL → Prop) (wc : Wit c) (wQ : Wit Q) : Prop := CodeW P n (.loop c) s Q
def DrawG (P : Program) (n : Nat) (id : Nat) (ops : Array Oper) (s : StL) (Q : Exit → StL → Prop) (wo : Wit ops) (wQ : Wit Q) : Prop := CodeW P n (.region id ops true) s Q
def wpk (P : Program) (n : Nat) : Code → StL → (Exit → StL → Prop) → Prop
  | .skip, s, Q => Q .normal s
  | .ret, s, Q => Q .ret s
  | .exit id, s, Q => Q (.exit id) s
  | .seq x y, s, Q => wpk P n x s (SeqK (fun s' Q' => wpk P n y s' Q') Q)
  | .block id c, s, Q => wpk P n c s (BlkK id Q)
  | .cond c x y, s, Q => condX (boolPV (ev s c)) (wpk P n x s Q) (wpk P n y s Q) ⟨⟩ ⟨⟩
  | .region id ops false, s, Q => RunW P n ops ops.toList s (NormK Q)
  | .region id ops true, s, Q => DrawG P n id ops s Q ⟨⟩ ⟨⟩
  | .loop c, s, Q => LoopG P n c s Q ⟨⟩ ⟨⟩
  | c, s, Q => CodeW P n c s Q
section
variable (s : StL) (Q : Exit → StL → Prop)
@[simp ↓] theorem SeqK_normal (f : StL → (Exit → StL → Prop) → Prop) : SeqK f Q .normal s = f s Q := rfl
@[simp ↓] theorem SeqK_exit (f : StL → (Exit → StL → Prop) → Prop) (i : Nat) : SeqK f Q (.exit i) s = Q (.exit i) s := rfl
@[simp ↓] theorem SeqK_ret (f : StL → (Exit → StL → Prop) → Prop) : SeqK f Q .ret s = Q .ret s := rfl
@[simp ↓] theorem BlkK_normal (id : Nat) : BlkK id Q .normal s = Q .normal s := rfl
@[simp ↓] theorem BlkK_ret (id : Nat) : BlkK id Q .ret s = Q .ret s := rfl
@[simp ↓] theorem BlkK_same (id : Nat) : BlkK id Q (.exit id) s = Q .normal s := by simp only [BlkK, if_pos]
theorem BlkK_exit (id i : Nat) : BlkK id Q (.exit i) s = if i = id then Q .normal s else Q (.exit i) s := rfl
@[simp ↓] theorem BlkK_ne (id i : Nat) (h : (i == id) = false) : BlkK id Q (.exit i) s = Q (.exit i) s := by simp only [beq_eq_false_iff_ne, ne_eq] at h; simp only [BlkK, if_neg h]
@[simp ↓] theorem NormK_s : NormK Q s = Q .normal s := rfl
@[simp ↓] theorem wpk_skip : wpk P n .skip s Q = Q .normal s := rfl
@[simp ↓] theorem wpk_ret : wpk P n .ret s Q = Q .ret s := rfl
@[simp ↓] theorem wpk_exit (id : Nat) : wpk P n (.exit id) s Q = Q (.exit id) s := rfl
@[simp ↓] theorem wpk_seq (x y : Code) : wpk P n (.seq x y) s Q = wpk P n x s (SeqK (fun s' Q' => wpk P n y s' Q') Q) := rfl
@[simp ↓] theorem wpk_block (id : Nat) (c : Code) : wpk P n (.block id c) s Q = wpk P n c s (BlkK id Q) := rfl
@[simp ↓] theorem wpk_cond (c : Operand) (x y : Code) : wpk P n (.cond c x y) s Q = condX (boolPV (ev s c)) (wpk P n x s Q) (wpk P n y s Q) ⟨⟩ ⟨⟩ := rfl
@[simp ↓] theorem wpk_region (id : Nat) (l : List Oper) : wpk P n (.region id l.toArray false) s Q = RunG P n l.toArray l s (NormK Q) ⟨⟩ ⟨⟩ := rfl
end

theorem wpk_sound : ∀ (c : Code) (s : StL) (Q : Exit → StL → Prop), wpk P n c s Q → CodeW P n c s Q
  | .skip, s, Q, h => codeW_skip h
  | .ret, s, Q, h => codeW_ret h
  | .exit id, s, Q, h => codeW_exit h
  | .seq x y, s, Q, h => codeW_seq fun K hK => (wpk_sound x s _ h).mono fun e s' hq => by
      cases e with
      | normal => exact hK s' (wpk_sound y s' Q hq)
      | exit id => exact hq
      | goto l => exact hq
      | ret => exact hq
      | panic ch => exact hq
      | outgrown => exact hq
  | .block id c, s, Q, h => codeW_block ((wpk_sound c s _ h).mono fun e s' hq => by
      cases e with
      | normal => exact hq
      | exit id => exact hq
      | goto l => exact hq
      | ret => exact hq
      | panic ch => exact hq
      | outgrown => exact hq)
  | .cond c x y, s, Q, h => by
      have h' : condX (boolPV (ev s c)) (wpk P n x s Q) (wpk P n y s Q) ⟨⟩ ⟨⟩ := h
      generalize he : ev s c = pv at h'
      unfold boolPV at h'
      split at h'
      · exact codeW_cond he (fun hb => wpk_sound x s Q (h'.1 hb)) (fun hb => wpk_sound y s Q (h'.2 hb))
      · exact h'.elim
  | .region id ops false, s, Q, h => codeW_region fun K hK => by
      have h' : RunW P n ops ops.toList s (NormK Q) := h
      exact runW_mono h' hK
  | .region id ops true, s, Q, h => h
  | .loop b, s, Q, h => h
  | .rangeFunc _ _ _ _, s, Q, h => h
  | .scope _, s, Q, h => h
  | .label _, s, Q, h => h
  | .goto _, s, Q, h => h
  | .refuse _, s, Q, h => h

@[simp ↓] theorem wpk_loop (s : StL) (Q : Exit → StL → Prop) (b : Code) : wpk P n (.loop b) s Q = LoopG P n b s Q ⟨⟩ ⟨⟩ := rfl

/-- What a round leaves. -/
def RoundP {ι : Type} (st : ι → StL) (J : ι → Prop) (μ : ι → Nat) (x : ι) (Q : Exit → StL → Prop) (w : Wit (st, J, μ, Q)) (e : Exit) (s' : StL) : Prop := LoopP st J μ x Q e s'

/-- A loop, by what its rounds keep. -/
theorem wk_loop {ι : Type} {s : StL} {body : Code} {Q : Exit → StL → Prop} {wc : Wit body} {wQ : Wit Q} (st : ι → StL) (J : ι → Prop) (μ : ι → Nat) (x0 : ι) (hs0 : (st x0).le s) (h0 : J x0)
    (round : ∀ x, J x → wpk P n body (st x) (RoundP st J μ x Q ⟨⟩)) : LoopG P n body s Q wc wQ :=
  cw_loop st J μ x0 h0 hs0 fun x hx => wpk_sound _ _ _ (round x hx)

section
variable {ι : Type} (st : ι → StL) (J : ι → Prop) (μ : ι → Nat) (x : ι) (Q : Exit → StL → Prop) (w : Wit (st, J, μ, Q)) (s : StL)
@[simp ↓] theorem RoundP_exit (i : Nat) : RoundP st J μ x Q w (.exit i) s = Q (.exit i) s := rfl
@[simp ↓] theorem RoundP_ret : RoundP st J μ x Q w .ret s = Q .ret s := rfl
theorem LoopP_next {st : ι → StL} {J : ι → Prop} {μ : ι → Nat} {x : ι} {Q : Exit → StL → Prop} {w : Wit (st, J, μ, Q)} {s : StL} (y : ι) (hl : (st y).le s) (hj : J y) (hm : μ y < μ x) : RoundP st J μ x Q w .normal s := ⟨y, hj, hl, hm⟩
end

/-- What a function leaves. -/
def EndP (P : Program) (fn : Func) (r : PV) (Mr : List (Nat × Res)) : Exit → StL → Prop := fun e s => (e = .normal ∨ e = .ret) ∧ RetP P fn s r Mr
@[simp ↓] theorem EndP_normal (fn : Func) (s : StL) (r : PV) (Mr : List (Nat × Res)) : EndP P fn r Mr .normal s = RetP P fn s r Mr := by simp only [EndP, true_or, true_and]
@[simp ↓] theorem EndP_ret (fn : Func) (s : StL) (r : PV) (Mr : List (Nat × Res)) : EndP P fn r Mr .ret s = RetP P fn s r Mr := by simp only [EndP, or_true, true_and]

theorem pcall_wp {f : FuncId} {fn : Func} {c : Code} {args : List TL} {r : PV} {Mr : List (Nat × Res)} (N : Nat) (hf : P.funcs[f]? = some fn) (hb : fn.body = some c) (hn : (fn.name == "runtime.NumGoroutine") = false)
    (hN : args.length + (fn.ntmps - args.length) = N) (h : wpk P N c ⟨initT 0 args, []⟩ (EndP P fn r Mr)) : PCall P f args r Mr :=
  pcall_of hf hb hn (hN ▸ wpk_sound _ _ _ h)

/-- A region that draws. -/
theorem wk_draw {id : Nat} (m : Nat) (As : List Nat) {l : List Oper} {s : StL} {Q : Exit → StL → Prop} {wo : Wit l.toArray} {wQ : Wit Q} (hm : P.follows .mixedOrders = true) (hok : drawOk l.toArray m As (depsOf l.toArray) = true)
    (h : DrawL P n l.toArray m As 0 l s (NormK Q) ⟨⟩ ⟨⟩) : DrawG P n id l.toArray s Q wo wQ := cw_draw hm hok fun K hK => drawW_mono h hK
@[simp ↓] theorem wpk_drawn (s : StL) (Q : Exit → StL → Prop) (id : Nat) (ops : Array Oper) : wpk P n (.region id ops true) s Q = DrawG P n id ops s Q ⟨⟩ ⟨⟩ := rfl

end

theorem retP_c {P : Program} {fn : Func} {s : StL} {k : Kind} {y : TL} (h : (match resPV P s fn.results.toList with
    | some pv => frzT 6 s pv
    | none => none) = some (k, y)) : RetP P fn s (.t k y) [] := by
  split at h
  · exact retP_frz (by assumption) h
  · cases h

attribute [simp ↓] CallW_eq
attribute [simp] opX effX retE backM StL.kills Sg.to Sg.bk Sg.ok PV.mp PV.mpL Res.mp
end Go.PS
