import Derived.Test.YtnikonhkbldnnaaGreatDoorPSB
set_option linter.unusedVariables false
set_option linter.unusedSimpArgs false
/- PS20: a nil slice adopted as a row of our own; the words by which states are reckoned. -/
namespace Go.PS
open Go Go.RowKit

section
variable {P : Program} {n : Nat} {s : StL}

/-- A temporary's nil slice becomes an empty row of our own. -/
theorem cw_adoptT {c : Code} {Q : Exit → StL → Prop} (t d ty sz : Nat) {k : Kind} (ht : getT s.T t = .t k (.v (.slice none 0 0))) (hf : s.free d = true) (h : CodeW P n c ⟨(t, .osl d) :: s.T, (d, .row ty sz .fz []) :: s.M⟩ Q) : CodeW P n c s Q := by
  intro w0 F0 a w ⟨φ, fp, hs⟩
  refine h w0 F0 a w ?_
  simp only [StL.free, Bool.and_eq_true] at hf
  have hv : a.tmps.getD t Go.undef = .slice none 0 0 := by
    have := hs.tmp t
    rw [ht] at this
    exact this.t_inv.v_inv
  obtain ⟨φ', fp', h', hφ⟩ := hs.regrow (of_decide_eq_true hf.2.2) hf.1.1 hf.1.2 (w' := w) (v' := .slice none 0 0) (r' := .row ty sz .fz []) (F' := fun _ => False) rfl rfl rfl (Nat.le_refl _) (fun _ _ _ => rfl)
    (fun g hg => hg.elim) (fun φ' fp' hS hSc => ⟨[], .inr ⟨rfl, ⟨none, rfl⟩, fun g hg => hg⟩, by simp, by simp, fun i j e x he => by simp at he⟩)
  refine ⟨φ', fp', ⟨h'.res, h'.disj, h'.old, fun q => ?_, h'.evo, h'.size, h'.dfr, h'.fix⟩⟩
  simp only [getT]
  by_cases e : t = q
  · subst e
    rw [if_pos rfl, hv]
    exact .osl hφ
  · rw [if_neg e]
    exact h'.tmp q

/-- The same of a cell of a block of our own. -/
theorem cw_adoptM {c : Code} {Q : Exit → StL → Prop} (m off d ty sz : Nat) {k : Kind} {ty0 : Nat} {cs : List PV} (hm : getM s.M m = .blk ty0 cs) (hc : cs[off]? = some (.t k (.v (.slice none 0 0)))) (hf : s.free d = true) (hne : (m == d) = false)
    (h : CodeW P n c ⟨s.T, (m, .blk ty0 (cs.set off (.osl d))) :: (d, .row ty sz .fz []) :: s.M⟩ Q) : CodeW P n c s Q := by
  intro w0 F0 a w ⟨φ, fp, hs⟩
  refine h w0 F0 a w ?_
  simp only [StL.free, Bool.and_eq_true] at hf
  obtain ⟨φ', fp', h', hφ⟩ := hs.regrow (of_decide_eq_true hf.2.2) hf.1.1 hf.1.2 (w' := w) (v' := .slice none 0 0) (r' := .row ty sz .fz []) (F' := fun _ => False) rfl rfl rfl (Nat.le_refl _) (fun _ _ _ => rfl)
    (fun g hg => hg.elim) (fun φ' fp' hS hSc => ⟨[], .inr ⟨rfl, ⟨none, rfl⟩, fun g hg => hg⟩, by simp, by simp, fun i j e x he => by simp at he⟩)
  have hne' : ¬ d = m := by
    rintro rfl
    simp at hne
  refine ⟨φ', fp', ⟨fun q => ?_, h'.disj, h'.old, h'.tmp, h'.evo, h'.size, h'.dfr, h'.fix⟩⟩
  have hold := h'.res q
  show ResRep _ _ _ (getM ((m, _) :: (d, _) :: s.M) q) _ _
  simp only [getM] at hold ⊢
  by_cases e : m = q
  · subst e
    rw [if_pos rfl]
    rw [if_neg hne', hm] at hold
    obtain ⟨g, vs, hv, hF, hh, hsz, hr⟩ := hold
    refine ⟨g, vs, hv, hF, hh, by simpa using hsz, fun j x hx => ?_⟩
    by_cases ej : off = j
    · subst ej
      have hlt : off < cs.length := (List.getElem?_eq_some_iff.1 hc).1
      rw [List.getElem?_set_self hlt] at hx
      cases hx
      have := hr off _ hc
      have hv := this.t_inv.v_inv
      rw [hv]
      exact .osl hφ
    · rw [List.getElem?_set_ne ej] at hx
      exact hr j x hx
  · rw [if_neg e]
    exact hold

theorem all_nil {α : Type} (p : α → Bool) : ([] : List α).all p = true := rfl

theorem pcall_cast {f : FuncId} {args : List TL} {r r' : PV} {Mr : List (Nat × Res)} (h : PCall P f args r Mr) (e : r = r') : PCall P f args r' Mr := e ▸ h

end

@[simp] theorem absPV_ptr (P : Program) (s : StL) (t m off : Nat) (v : PV) : absPV P s t (.ptr m off) v = none := rfl
@[simp] theorem absPV_oep (P : Program) (s : StL) (t m a b c : Nat) (v : PV) : absPV P s t (.oep m a b c) v = none := rfl
@[simp] theorem absPV_mx2 (P : Program) (s : StL) (t m a b : Nat) (v : PV) : absPV P s t (.mx m 2 a b) v = none := rfl
@[simp] theorem absPV_mx3 (P : Program) (s : StL) (t m i j m' : Nat) : absPV P s t (.mx m 3 i j) (.osl m') = (match getM s.M m, getM s.M m' with
    | .mat t0 t1 X, .row ty 1 _ xs => match intsOf xs with
      | some r => if szT P t = some 1 ∧ ty = t1 ∧ (m == m') = false ∧ m < 1000000 ∧ i < X.length ∧ X.getD i [0] = [] ∧ xs.isEmpty = false ∧ s.M.all (fun q => !q.2.men m) = true then
          some ⟨(killT m' s.T).map fun q => (q.1, mx0 m q.2), (m, .mat t0 t1 (X.set i r)) :: (m', .dead) :: killM m' s.M⟩ else none
      | none => none
    | _, _ => none) := rfl
@[simp] theorem intsOf_rep (n : Nat) (x : Int) : intsOf (List.replicate n [.v (.int .i64 x)]) = some (List.replicate n x) := by
  induction n with
  | zero => rfl
  | succ n ih =>
    rw [List.replicate_succ, List.replicate_succ, intsOf, ih]
    rfl
attribute [simp] mx0
attribute [simp] wantPV step valOp opVal ev_tmp ev_int ev_bool ev_str ev_sl ev_map ev_ptr ev_nilFunc ev_nilIface ev_agg ev_func getT getM newOp newVal appVal
  app1 callee retS optL lendPV loadPV partPV addrPV idxPV nilPV bndPV slicePV lenPV builtinVal strPV datPV cntPV appStrPV usStrPV sBin sBinT sUn cellsPV lowerPV lowerL storePV buildPV partsPV fillPV rowPV appendPV shrinkPV srcPV nilCmp dstPV copyPV
  StL.free StL.kill killT killM Res.kill PV.men PV.menL Res.men Res.isDead Kind.join TL.leaf Value.oneCell' PV.noRo PV.noRoL Res.noRo PV.nm PV.nmL Res.nm PV.ren PV.renL Res.ren skipS gdPV gdV skipPV upd spl initT
  frzT optK resPV resL resOne

end Go.PS
/- PS21: the walk as a reckoning: one word for a state of the walk, rewritten by simp, that stops at calls, branches, loops and draws. -/
namespace Go.PS
open Go Go.RowKit

def boolPV : PV → Option Bool
  | .t _ (.v (.bool b)) => some b
  | _ => none
@[simp] theorem boolPV_t (k : Kind) (b : Bool) : boolPV (.t k (.v (.bool b))) = some b := rfl

/-- A mark on a continuation: what it marks simp does not look at (the mark's type speaks of it). -/
structure Wit {α : Sort _} (a : α) : Type where
  mk ::

/-- A branch. -/
def condX (o : Option Bool) (A B : Prop) (wA : Wit A) (wB : Wit B) : Prop :=
  match o with
  | some b => (b = true → A) ∧ (b = false → B)
  | none => False
@[simp] theorem condX_true (A B : Prop) (wA : Wit A) (wB : Wit B) : condX (some true) A B wA wB = A := by simp only [condX, true_implies, Bool.true_eq_false, false_implies, and_true]
@[simp] theorem condX_false (A B : Prop) (wA : Wit A) (wB : Wit B) : condX (some false) A B wA wB = B := by simp only [condX, true_implies, Bool.false_eq_true, false_implies, true_and]
@[simp] theorem condX_none (A B : Prop) (wA : Wit A) (wB : Wit B) : condX none A B wA wB = False := rfl
theorem condX_of {b : Bool} {A B : Prop} {wA : Wit A} {wB : Wit B} (h1 : b = true → A) (h2 : b = false → B) : condX (some b) A B wA wB := ⟨h1, h2⟩
theorem condX_dec {p : Prop} [Decidable p] {A B : Prop} {wA : Wit A} {wB : Wit B} (h1 : p → A) (h2 : ¬ p → B) : condX (some (decide p)) A B wA wB := ⟨fun h => h1 (by simpa using h), fun h => h2 (by simpa using h)⟩
theorem condX_ndec {p : Prop} [Decidable p] {A B : Prop} {wA : Wit A} {wB : Wit B} (h1 : ¬ p → A) (h2 : p → B) : condX (some (!decide p)) A B wA wB := ⟨fun h => h1 (by simpa using h), fun h => h2 (by simpa using h)⟩

/-- A state, if there is one. -/
def optS (o : Option StL) (K : StL → Prop) (wK : Wit K) : Prop :=
  match o with
  | some s => K s
  | none => False
@[simp] theorem optS_some (s : StL) (K : StL → Prop) (wK : Wit K) : optS (some s) K wK = K s := rfl
@[simp] theorem optS_none (K : StL → Prop) (wK : Wit K) : optS none K wK = False := rfl

section
variable {P : Program} {n : Nat}

/-- A call that waits for a contract. -/
def CallG (P : Program) (s : StL) (d : Nat) (f : FuncId) (pvs : List PV) (b : Bool) (tls : List TL) (K : StL → Prop) (wK : Wit K) : Prop :=
  ((∃ r Mr, PCall P f tls r Mr ∧ (b = true → r.noRo = true ∧ Mr.all (fun p => p.2.noRo) = true) ∧ optS (retS s d r Mr) K ⟨⟩) ∨ ECallW P s d f pvs K) ∨ ∃ z, CallB P (frzZ z s) d f (pvs.map (frzQ z s)) K
theorem CallG.by {s : StL} {d : Nat} {f : FuncId} {pvs : List PV} {b : Bool} {tls : List TL} {K : StL → Prop} {wK : Wit K} {r : PV} {Mr : List (Nat × Res)} (h : PCall P f tls r Mr)
    (h2 : (b = true → r.noRo = true ∧ Mr.all (fun p => p.2.noRo) = true) ∧ optS (retS s d r Mr) K ⟨⟩) : CallG P s d f pvs b tls K wK := .inl (.inl ⟨r, Mr, h, h2⟩)
/-- A call that waits for a contract of what may be changed. -/
def CallN (P : Program) (s : StL) (d : Nat) (f : FuncId) (pvs : List PV) (K : StL → Prop) (wK : Wit K) : Prop := ECallW P s d f pvs K ∨ ∃ z, CallB P (frzZ z s) d f (pvs.map (frzQ z s)) K
theorem CallG.on {s : StL} {d : Nat} {f : FuncId} {pvs args : List PV} {b : Bool} {tls : List TL} {K : StL → Prop} {wK : Wit K} {r : PV} {M M' : List (Nat × Res)} (g : Sg) (h : ECall P f args M r M')
    (h1 : g.ok = true) (h2 : PV.mpL g.to true pvs = args) (h3 : ∀ p ∈ g, getM M p.2 = (getM s.M p.1).mp g.to true) (h4 : M.all (fun q => (g.bk q.1).isSome) = true) (h5 : optS (some (retE s d g r M')) K ⟨⟩) : CallG P s d f pvs b tls K wK :=
  .inl (.inr ⟨g, args, M, _, h, h1, h2, h3, h4, fun r' M'' e => e.1 ▸ e.2 ▸ h5⟩)
theorem CallN.on {s : StL} {d : Nat} {f : FuncId} {pvs args : List PV} {K : StL → Prop} {wK : Wit K} {r : PV} {M M' : List (Nat × Res)} (g : Sg) (h : ECall P f args M r M')
    (h1 : g.ok = true) (h2 : PV.mpL g.to true pvs = args) (h3 : ∀ p ∈ g, getM M p.2 = (getM s.M p.1).mp g.to true) (h4 : M.all (fun q => (g.bk q.1).isSome) = true) (h5 : optS (some (retE s d g r M')) K ⟨⟩) : CallN P s d f pvs K wK :=
  .inl ⟨g, args, M, _, h, h1, h2, h3, h4, fun r' M'' e => e.1 ▸ e.2 ▸ h5⟩
/-- The same behind giving up. -/
def CallGB (P : Program) (s : StL) (d : Nat) (f : FuncId) (pvs : List PV) (b : Bool) (tls : List TL) (K : StL → Prop) (wK : Wit K) : Prop :=
  (∃ r Mr, PCall P f tls r Mr ∧ (b = true → r.noRo = true ∧ Mr.all (fun p => p.2.noRo) = true) ∧ optS (retS s d r Mr) K ⟨⟩) ∨ ECallW P s d f pvs K
theorem CallGB.by {s : StL} {d : Nat} {f : FuncId} {pvs : List PV} {b : Bool} {tls : List TL} {K : StL → Prop} {wK : Wit K} {r : PV} {Mr : List (Nat × Res)} (h : PCall P f tls r Mr)
    (h2 : (b = true → r.noRo = true ∧ Mr.all (fun p => p.2.noRo) = true) ∧ optS (retS s d r Mr) K ⟨⟩) : CallGB P s d f pvs b tls K wK := .inl ⟨r, Mr, h, h2⟩
theorem CallGB.on {s : StL} {d : Nat} {f : FuncId} {pvs args : List PV} {b : Bool} {tls : List TL} {K : StL → Prop} {wK : Wit K} {r : PV} {M M' : List (Nat × Res)} (g : Sg) (h : ECall P f args M r M')
    (h1 : g.ok = true) (h2 : PV.mpL g.to true pvs = args) (h3 : ∀ p ∈ g, getM M p.2 = (getM s.M p.1).mp g.to true) (h4 : M.all (fun q => (g.bk q.1).isSome) = true) (h5 : optS (some (retE s d g r M')) K ⟨⟩) : CallGB P s d f pvs b tls K wK :=
  .inr ⟨g, args, M, _, h, h1, h2, h3, h4, fun r' M'' e => e.1 ▸ e.2 ▸ h5⟩
theorem CallG.onP {s : StL} {d : Nat} {f : FuncId} {pvs args : List PV} {b : Bool} {tls : List TL} {K : StL → Prop} {wK : Wit K} {M : List (Nat × Res)} {Post : PV → List (Nat × Res) → Prop} (g : Sg) (h : ECallP P f args M Post)
    (h1 : g.ok = true) (h2 : PV.mpL g.to true pvs = args) (h3 : ∀ p ∈ g, getM M p.2 = (getM s.M p.1).mp g.to true) (h4 : M.all (fun q => (g.bk q.1).isSome) = true) (h5 : ∀ r M', Post r M' → optS (some (retE s d g r M')) K ⟨⟩) : CallG P s d f pvs b tls K wK :=
  .inl (.inr ⟨g, args, M, Post, h, h1, h2, h3, h4, h5⟩)
theorem CallN.onP {s : StL} {d : Nat} {f : FuncId} {pvs args : List PV} {K : StL → Prop} {wK : Wit K} {M : List (Nat × Res)} {Post : PV → List (Nat × Res) → Prop} (g : Sg) (h : ECallP P f args M Post)
    (h1 : g.ok = true) (h2 : PV.mpL g.to true pvs = args) (h3 : ∀ p ∈ g, getM M p.2 = (getM s.M p.1).mp g.to true) (h4 : M.all (fun q => (g.bk q.1).isSome) = true) (h5 : ∀ r M', Post r M' → optS (some (retE s d g r M')) K ⟨⟩) : CallN P s d f pvs K wK :=
  .inl ⟨g, args, M, Post, h, h1, h2, h3, h4, h5⟩
def callY (P : Program) (s : StL) (d : Nat) (f : FuncId) (pvs : List PV) (o : Option (Bool × List TL)) (K : StL → Prop) (wK : Wit K) : Prop :=
  match o with
  | some (b, tls) => CallGB P s d f pvs b tls K ⟨⟩
  | none => ECallW P s d f pvs K
@[simp] theorem callY_some (s : StL) (d : Nat) (f : FuncId) (pvs : List PV) (b : Bool) (tls : List TL) (K : StL → Prop) (wK : Wit K) : callY P s d f pvs (some (b, tls)) K wK = CallGB P s d f pvs b tls K ⟨⟩ := rfl
theorem CallB_eq (d : Nat) (s : StL) (f : FuncId) (pvs : List PV) (K : StL → Prop) : CallB P s d f pvs K = callY P s d f pvs (optL (lendPV 5 s) pvs) K ⟨⟩ := by
  unfold CallB
  cases h : optL (lendPV 5 s) pvs with
  | none => simp only [h, callY, false_or]
  | some p =>
    obtain ⟨b, tls⟩ := p
    simp only [h, callY, CallGB]
    rfl
theorem CallG.frz {s : StL} {d : Nat} {f : FuncId} {pvs : List PV} {b : Bool} {tls : List TL} {K : StL → Prop} {wK : Wit K} (z : List Nat) (h : callY P (frzZ z s) d f (pvs.map (frzQ z s)) (optL (lendPV 5 (frzZ z s)) (pvs.map (frzQ z s))) K ⟨⟩) : CallG P s d f pvs b tls K wK :=
  .inr ⟨z, by rw [CallB_eq]; exact h⟩
theorem CallN.frz {s : StL} {d : Nat} {f : FuncId} {pvs : List PV} {K : StL → Prop} {wK : Wit K} (z : List Nat) (h : callY P (frzZ z s) d f (pvs.map (frzQ z s)) (optL (lendPV 5 (frzZ z s)) (pvs.map (frzQ z s))) K ⟨⟩) : CallN P s d f pvs K wK :=
  .inr ⟨z, by rw [CallB_eq]; exact h⟩

def callX (P : Program) (s : StL) (d : Nat) (f : FuncId) (pvs : List PV) (o : Option (Bool × List TL)) (K : StL → Prop) (wK : Wit K) : Prop :=
  match o with
  | some (b, tls) => CallG P s d f pvs b tls K ⟨⟩
  | none => CallN P s d f pvs K ⟨⟩
@[simp] theorem callX_some (s : StL) (d : Nat) (f : FuncId) (pvs : List PV) (b : Bool) (tls : List TL) (K : StL → Prop) (wK : Wit K) : callX P s d f pvs (some (b, tls)) K wK = CallG P s d f pvs b tls K ⟨⟩ := rfl
@[simp] theorem callX_none (s : StL) (d : Nat) (f : FuncId) (pvs : List PV) (K : StL → Prop) (wK : Wit K) : callX P s d f pvs none K wK = CallN P s d f pvs K ⟨⟩ := rfl

theorem CallW_eq (d : Nat) (s : StL) (f : FuncId) (pvs : List PV) (K : StL → Prop) : CallW P n (some d) s f pvs K = (d < n ∧ callX P s d f pvs (optL (lendPV 5 s) pvs) K ⟨⟩) := by
  show (d < n ∧ (CallB P s d f pvs K ∨ ∃ z, CallB P (frzZ z s) d f (pvs.map (frzQ z s)) K)) = _
  rw [CallB_eq (s := s)]
  cases h : optL (lendPV 5 s) pvs with
  | none => rfl
  | some p => rfl

/-- The callee of a call. -/
def calleeX (P : Program) (n : Nat) (dst : Option Nat) (s : StL) (c : Call) (o : Option (FuncId × List PV)) (K : StL → Prop) (wK : Wit K) : Prop :=
  match o with
  | some (f, pvs) => CallW P n dst s f pvs K
  | none => optS (step P n dst s (.call c)) K ⟨⟩
@[simp] theorem calleeX_some (dst : Option Nat) (s : StL) (c : Call) (f : FuncId) (pvs : List PV) (K : StL → Prop) (wK : Wit K) : calleeX P n dst s c (some (f, pvs)) K wK = CallW P n dst s f pvs K := rfl
@[simp] theorem calleeX_none (dst : Option Nat) (s : StL) (c : Call) (K : StL → Prop) (wK : Wit K) : calleeX P n dst s c none K wK = optS (step P n dst s (.call c)) K ⟨⟩ := rfl

theorem StepW_eq (dst : Option Nat) (s : StL) (op : Op) (K : StL → Prop) : StepW P n dst s op K = optS (step P n dst s op) K ⟨⟩ := by
  unfold StepW optS
  cases step P n dst s op <;> rfl

/-- A step of a range over a map, that waits for what is said of it. -/
def NextG (n d m mn nn : Nat) (seen : List Nat) (k : Kind) (es : List (Value × TL)) (s : StL) (K : StL → Prop) (wK : Wit K) : Prop :=
  d < n ∧ es.length = nn ∧ ((∀ i, i < nn → i ∈ seen) → K ⟨(d, .tup [.t .fz (.v (.bool false))]) :: s.T, s.M⟩) ∧
    ∀ i p, es[i]? = some p → i ∉ seen → K ⟨(d, .tup [.t .fz (.v (.bool true)), .t .fz (.v p.1), .t k p.2]) :: s.T, (m, .iter mn nn (i :: seen)) :: s.M⟩
theorem NextG.by {n d m mn nn : Nat} {seen : List Nat} {k : Kind} {es : List (Value × TL)} {s : StL} {K : StL → Prop} {wK : Wit K} (hd : d < n) (hl : es.length = nn)
    (h1 : (∀ i, i < nn → i ∈ seen) → optS (some ⟨(d, .tup [.t .fz (.v (.bool false))]) :: s.T, s.M⟩) K ⟨⟩)
    (h2 : ∀ i p, es[i]? = some p → i ∉ seen → optS (some ⟨(d, .tup [.t .fz (.v (.bool true)), .t .fz (.v p.1), .t k p.2]) :: s.T, (m, .iter mn nn (i :: seen)) :: s.M⟩) K ⟨⟩) : NextG n d m mn nn seen k es s K wK := ⟨hd, hl, h1, h2⟩
def nextZ (n d m mn nn : Nat) (seen : List Nat) (s : StL) (r : Res) (K : StL → Prop) (wK : Wit K) : Prop :=
  match r with
  | .tab k es => NextG n d m mn nn seen k es s K ⟨⟩
  | _ => False
def nextY (n d m : Nat) (s : StL) (r : Res) (K : StL → Prop) (wK : Wit K) : Prop :=
  match r with
  | .iter mn nn seen => nextZ n d m mn nn seen s (getM s.M mn) K ⟨⟩
  | _ => False
def nextX (n : Nat) (dst : Option Nat) (s : StL) (p : PV) (K : StL → Prop) (wK : Wit K) : Prop :=
  match dst, p with
  | some d, .ptr m 0 => nextY n d m s (getM s.M m) K ⟨⟩
  | _, _ => False
@[simp] theorem nextX_ptr (n d m : Nat) (s : StL) (K : StL → Prop) (wK : Wit K) : nextX n (some d) s (.ptr m 0) K wK = nextY n d m s (getM s.M m) K ⟨⟩ := rfl
@[simp] theorem nextY_iter (n d m mn nn : Nat) (seen : List Nat) (s : StL) (K : StL → Prop) (wK : Wit K) : nextY n d m s (.iter mn nn seen) K wK = nextZ n d m mn nn seen s (getM s.M mn) K ⟨⟩ := rfl
@[simp] theorem nextZ_tab (n d m mn nn : Nat) (seen : List Nat) (s : StL) (k : Kind) (es : List (Value × TL)) (K : StL → Prop) (wK : Wit K) : nextZ n d m mn nn seen s (.tab k es) K wK = NextG n d m mn nn seen k es s K ⟨⟩ := rfl
theorem NextW_eq (dst : Option Nat) (s : StL) (p : PV) (K : StL → Prop) : NextW n dst s p K = nextX n dst s p K ⟨⟩ := by
  cases dst with
  | none => rfl
  | some d =>
    cases p with
    | ptr m off =>
      cases off with
      | succ off => rfl
      | zero =>
        simp only [NextW, nextX]
        cases hM : getM s.M m with
        | iter mn nn seen =>
          simp only [nextY]
          cases hN : getM s.M mn with
          | tab k es => rfl
          | _ => rfl
        | _ => rfl
    | _ => rfl
theorem nextX_mono {dst : Option Nat} {s : StL} {p : PV} {K K' : StL → Prop} {w : Wit K} {w' : Wit K'} (h : nextX n dst s p K w) (hK : ∀ s, K s → K' s) : nextX n dst s p K' w' := by
  unfold nextX at h ⊢
  split at h
  · unfold nextY at h ⊢
    split at h
    · unfold nextZ at h ⊢
      split at h
      · exact ⟨h.1, h.2.1, fun hh => hK _ (h.2.2.1 hh), fun i p h1 h2 => hK _ (h.2.2.2 i p h1 h2)⟩
      · exact h
    · exact h
  · exact h

/-- An operation. -/
def opX (P : Program) (n : Nat) (dst : Option Nat) (s : StL) (op : Op) (K : StL → Prop) (wK : Wit K) : Prop :=
  match op with
  | .next x false => nextX n dst s (ev s x) K ⟨⟩
  | .call c => calleeX P n dst s c (callee s c) K ⟨⟩
  | op => optS (step P n dst s op) K ⟨⟩
theorem OpW_eq (dst : Option Nat) (s : StL) (op : Op) (K : StL → Prop) : OpW P n dst s op K = opX P n dst s op K ⟨⟩ := by
  cases op with
  | call c =>
    show (match callee s c with
      | some (f, pvs) => CallW P n dst s f pvs K
      | none => StepW P n dst s (.call c) K) = calleeX P n dst s c (callee s c) K ⟨⟩
    unfold calleeX
    cases callee s c with
    | none => exact StepW_eq _ _ _ _
    | some p => rfl
  | next x b =>
    cases b with
    | false => exact NextW_eq _ _ _ _
    | true => exact StepW_eq _ _ _ _
  | _ => exact StepW_eq _ _ _ _

theorem CallW_mono {dst : Option Nat} {s : StL} {f : FuncId} {pvs : List PV} {K K' : StL → Prop} (h : CallW P n dst s f pvs K) (hK : ∀ s, K s → K' s) : CallW P n dst s f pvs K' := by
  cases dst with
  | none => exact h
  | some d =>
    obtain ⟨h1, h2⟩ := h
    exact ⟨h1, h2.imp (fun h => h.mono hK) fun ⟨z, h⟩ => ⟨z, h.mono hK⟩⟩

theorem optS_mono {o : Option StL} {K K' : StL → Prop} {wK : Wit K} {wK' : Wit K'} (h : optS o K wK) (hK : ∀ s, K s → K' s) : optS o K' wK' := by
  cases o with
  | none => exact h
  | some z => exact hK _ h

theorem opX_mono {dst : Option Nat} {s : StL} {op : Op} {K K' : StL → Prop} {w : Wit K} {w' : Wit K'} (h : opX P n dst s op K w) (hK : ∀ s, K s → K' s) : opX P n dst s op K' w' := by
  cases op with
  | call c =>
    have h' : calleeX P n dst s c (callee s c) K ⟨⟩ := h
    show calleeX P n dst s c (callee s c) K' ⟨⟩
    unfold calleeX at h' ⊢
    cases hc : callee s c with
    | none => rw [hc] at h'; exact optS_mono h' hK
    | some p => rw [hc] at h'; exact CallW_mono h' hK
  | next x b =>
    cases b with
    | false => exact nextX_mono (w := ⟨⟩) (w' := ⟨⟩) h hK
    | true => exact optS_mono (wK := ⟨⟩) (wK' := ⟨⟩) h hK
  | _ => exact optS_mono (wK := ⟨⟩) (wK' := ⟨⟩) h hK

theorem RunW_nil (ops : Array Oper) (s : StL) (K : StL → Prop) : RunW P n ops [] s K = K s := rfl
theorem RunW_cons (ops : Array Oper) (o : Oper) (l : List Oper) (s : StL) (K : StL → Prop) :
    RunW P n ops (o :: l) s K = condX (wantPV ops s o) (opX P n o.dst s o.op (fun s' => RunW P n ops l s' K) ⟨⟩) ((∀ d, o.dst = some d → d < n) ∧ RunW P n ops l (skipS s o.dst) K) ⟨⟩ ⟨⟩ := by
  conv => lhs; unfold RunW
  cases h : wantPV ops s o with
  | none => rfl
  | some b =>
    cases b
    · simp only [condX_false]
    · simp only [condX_true, OpW_eq]

theorem condX_mono {o : Option Bool} {A B A' B' : Prop} {wA : Wit A} {wB : Wit B} {wA' : Wit A'} {wB' : Wit B'} (h : condX o A B wA wB) (hA : A → A') (hB : B → B') : condX o A' B' wA' wB' := by
  cases o with
  | none => exact h
  | some b => exact ⟨fun e => hA (h.1 e), fun e => hB (h.2 e)⟩

theorem runW_mono {ops : Array Oper} : ∀ {l : List Oper} {s : StL} {K K' : StL → Prop}, RunW P n ops l s K → (∀ s, K s → K' s) → RunW P n ops l s K'
  | [], s, K, K', h, hK => hK _ h
  | o :: l, s, K, K', h, hK => by
    rw [RunW_cons] at h ⊢
    exact condX_mono h (fun h => opX_mono h fun s' h' => runW_mono h' hK) (fun h => ⟨h.1, runW_mono h.2 hK⟩)

/-- The value of an operation that a draw may move. -/
def valX (o : Option PV) (o2 : Option (Bool × Res)) (d : Nat) (K : PV → Option Res → Prop) (wK : Wit K) : Prop :=
  match o with
  | some q => K q none
  | none => match o2 with
    | some (b, r) => K (if b then .ptr d 0 else .osl d) (some r)
    | none => False
@[simp] theorem valX_some (q : PV) (o2 : Option (Bool × Res)) (d : Nat) (K : PV → Option Res → Prop) (wK : Wit K) : valX (some q) o2 d K wK = K q none := rfl
@[simp] theorem valX_blk (r : Res) (d : Nat) (K : PV → Option Res → Prop) (wK : Wit K) : valX none (some (true, r)) d K wK = K (.ptr d 0) (some r) := rfl
@[simp] theorem valX_row (r : Res) (d : Nat) (K : PV → Option Res → Prop) (wK : Wit K) : valX none (some (false, r)) d K wK = K (.osl d) (some r) := rfl
theorem ValW_eq (s : StL) (d : Nat) (op : Op) (K : PV → Option Res → Prop) : ValW P s d op K = valX (valOp P s op) (newVal P s op) d K ⟨⟩ := by
  unfold ValW valX
  cases valOp P s op with
  | none => cases newVal P s op <;> rfl
  | some q => rfl

/-- A call that a draw may move, waiting for a contract. -/
def CallGE (P : Program) (d : Nat) (f : FuncId) (b : Bool) (tls : List TL) (K : PV → Option Res → Prop) (wK : Wit K) : Prop :=
  ∃ r Mr, PCall P f tls r Mr ∧ (b = true → r.noRo = true ∧ Mr.all (fun p => p.2.noRo) = true) ∧ match Mr with
    | [] => r.nm false 0 = true ∧ K (r.ren d) none
    | [(0, res)] => (r.nm true 0 = true ∧ res.nm true 0 = true) ∧ K (r.ren d) (some (res.ren d))
    | _ => False
theorem CallGE.by {d : Nat} {f : FuncId} {b : Bool} {tls : List TL} {K : PV → Option Res → Prop} {wK : Wit K} {r : PV} (h : PCall P f tls r [])
    (h2 : (b = true → r.noRo = true) ∧ r.nm false 0 = true ∧ K (r.ren d) none) : CallGE P d f b tls K wK := ⟨r, [], h, fun hb => ⟨h2.1 hb, rfl⟩, h2.2⟩
theorem CallGE.by1 {d : Nat} {f : FuncId} {b : Bool} {tls : List TL} {K : PV → Option Res → Prop} {wK : Wit K} {r : PV} {res : Res} (h : PCall P f tls r [(0, res)])
    (h2 : (b = true → r.noRo = true ∧ res.noRo = true) ∧ (r.nm true 0 = true ∧ res.nm true 0 = true) ∧ K (r.ren d) (some (res.ren d))) : CallGE P d f b tls K wK :=
  ⟨r, _, h, fun hb => ⟨(h2.1 hb).1, by simpa only [List.all_cons, List.all_nil, Bool.and_true] using (h2.1 hb).2⟩, h2.2⟩
def callEX (P : Program) (d : Nat) (f : FuncId) (o : Option (Bool × List TL)) (K : PV → Option Res → Prop) (wK : Wit K) : Prop :=
  match o with
  | some (b, tls) => CallGE P d f b tls K ⟨⟩
  | none => False
@[simp] theorem callEX_some (d : Nat) (f : FuncId) (b : Bool) (tls : List TL) (K : PV → Option Res → Prop) (wK : Wit K) : callEX P d f (some (b, tls)) K wK = CallGE P d f b tls K ⟨⟩ := rfl
@[simp] theorem callEX_none (d : Nat) (f : FuncId) (K : PV → Option Res → Prop) (wK : Wit K) : callEX P d f none K wK = False := rfl
theorem CallE_eq (s : StL) (d : Nat) (f : FuncId) (pvs : List PV) (K : PV → Option Res → Prop) : CallE P s d f pvs K = callEX P d f (optL (lendPV 5 s) pvs) K ⟨⟩ := by
  unfold CallE callEX
  cases optL (lendPV 5 s) pvs with
  | none => rfl
  | some p => rfl
def calleeEX (P : Program) (s : StL) (d : Nat) (c : Call) (o : Option (FuncId × List PV)) (K : PV → Option Res → Prop) (wK : Wit K) : Prop :=
  match o with
  | some (f, pvs) => callEX P d f (optL (lendPV 5 s) pvs) K ⟨⟩
  | none => valX (valOp P s (.call c)) (newVal P s (.call c)) d K ⟨⟩
@[simp] theorem calleeEX_some (s : StL) (d : Nat) (c : Call) (f : FuncId) (pvs : List PV) (K : PV → Option Res → Prop) (wK : Wit K) : calleeEX P s d c (some (f, pvs)) K wK = callEX P d f (optL (lendPV 5 s) pvs) K ⟨⟩ := rfl
@[simp] theorem calleeEX_none (s : StL) (d : Nat) (c : Call) (K : PV → Option Res → Prop) (wK : Wit K) : calleeEX P s d c none K wK = valX (valOp P s (.call c)) (newVal P s (.call c)) d K ⟨⟩ := rfl
def effX (P : Program) (s : StL) (d : Nat) (op : Op) (K : PV → Option Res → Prop) (wK : Wit K) : Prop :=
  match op with
  | .call c => calleeEX P s d c (callee s c) K ⟨⟩
  | op => valX (valOp P s op) (newVal P s op) d K ⟨⟩
theorem EffW_eq (ops : Array Oper) (o : Oper) (d : Nat) (s : StL) (K : PV → Option Res → Prop) : EffW P ops o d s K = condX (wantPV ops s o) (effX P s d o.op K ⟨⟩) (K skipPV none) ⟨⟩ ⟨⟩ := by
  have key : (match o.op with
    | .call c => match callee s c with
      | some (f, pvs) => CallE P s d f pvs K
      | none => ValW P s d (.call c) K
    | op => ValW P s d op K) = effX P s d o.op K ⟨⟩ := by
    cases o.op with
    | call c =>
      show (match callee s c with
        | some (f, pvs) => CallE P s d f pvs K
        | none => ValW P s d (.call c) K) = calleeEX P s d c (callee s c) K ⟨⟩
      unfold calleeEX
      cases callee s c with
      | none => exact ValW_eq _ _ _ _
      | some p => exact CallE_eq _ _ _ _ _
    | _ => exact ValW_eq _ _ _ _
  unfold EffW
  cases h : wantPV ops s o with
  | none => rfl
  | some b =>
    cases b
    · simp only [condX_false]
    · simp only [condX_true]
      exact key
theorem DrawW_nil (ops : Array Oper) (m : Nat) (As : List Nat) (i : Nat) (s : StL) (K : StL → Prop) : DrawW P n ops m As i [] s K = K s := rfl
/-- One operation more. -/
def drawX0 (P : Program) (n : Nat) (ops : Array Oper) (m : Nat) (As : List Nat) (i : Nat) (o : Oper) (l : List Oper) (s : StL) (K : StL → Prop) (b : Bool) : Prop :=
  match b with
  | true => match o.dst with
    | none => False
    | some d => d < n ∧ condX (wantPV ops s o) (effX P s d o.op (fun q res => (res.isSome = true → As.contains i = true ∧ s.free d = true) ∧ DrawW P n ops m As (i + 1) l (app1 d q res s) K) ⟨⟩)
        (DrawW P n ops m As (i + 1) l (app1 d skipPV none s) K) ⟨⟩ ⟨⟩
  | false => RunW P n ops (o :: l) s K
theorem DrawW_cons (ops : Array Oper) (m : Nat) (As : List Nat) (i : Nat) (o : Oper) (l : List Oper) (s : StL) (K : StL → Prop) : DrawW P n ops m As i (o :: l) s K = drawX0 P n ops m As i o l s K (decide (i < m)) := by
  conv => lhs; unfold DrawW
  by_cases h : i < m
  · rw [if_pos h, decide_eq_true h]
    unfold drawX0
    cases o.dst with
    | none => rfl
    | some d =>
      simp only [EffW_eq]
      cases wantPV ops s o with
      | none => rfl
      | some b => cases b <;> simp only [condX_true, condX_false, Option.isSome_none, Bool.false_eq_true, false_implies, true_and]
  · rw [if_neg h, decide_eq_false h]
    rfl

theorem effX_mono {s : StL} {d : Nat} {op : Op} {K K' : PV → Option Res → Prop} {w : Wit K} {w' : Wit K'} (h : effX P s d op K w) (hK : ∀ q r, K q r → K' q r) : effX P s d op K' w' := by
  have hv : ∀ (op : Op), valX (valOp P s op) (newVal P s op) d K ⟨⟩ → valX (valOp P s op) (newVal P s op) d K' ⟨⟩ := by
    intro op h
    generalize valOp P s op = o at h
    generalize newVal P s op = o2 at h
    cases o with
    | some q => exact hK _ _ h
    | none => cases o2 with
      | none => exact h
      | some p => exact hK _ _ h
  by_cases hc : ∃ c, op = .call c
  · obtain ⟨c, rfl⟩ := hc
    have h' : calleeEX P s d c (callee s c) K ⟨⟩ := h
    show calleeEX P s d c (callee s c) K' ⟨⟩
    cases hc : callee s c with
    | none => rw [hc] at h'; exact hv _ h'
    | some p =>
      rw [hc] at h'
      obtain ⟨f, pvs⟩ := p
      have h2 : callEX P d f (optL (lendPV 5 s) pvs) K ⟨⟩ := h'
      show callEX P d f (optL (lendPV 5 s) pvs) K' ⟨⟩
      generalize optL (lendPV 5 s) pvs = o at h2
      cases o with
      | none => exact h2
      | some p =>
        obtain ⟨b, tls⟩ := p
        obtain ⟨r, Mr, h1, h3, h4⟩ := h2
        refine ⟨r, Mr, h1, h3, ?_⟩
        split at h4
        · exact ⟨h4.1, hK _ _ h4.2⟩
        · exact ⟨h4.1, hK _ _ h4.2⟩
        · exact h4.elim
  · have e : ∀ K (w : Wit K), effX P s d op K w = valX (valOp P s op) (newVal P s op) d K ⟨⟩ := by
      intro K w
      cases op <;> first
        | rfl
        | exact absurd ⟨_, rfl⟩ hc
    rw [e] at h ⊢
    exact hv op h

theorem drawW_mono {ops : Array Oper} {m : Nat} {As : List Nat} : ∀ {l : List Oper} {i : Nat} {s : StL} {K K' : StL → Prop}, DrawW P n ops m As i l s K → (∀ s, K s → K' s) → DrawW P n ops m As i l s K'
  | [], i, s, K, K', h, hK => hK _ h
  | o :: l, i, s, K, K', h, hK => by
    rw [DrawW_cons] at h ⊢
    cases hb : decide (i < m) with
    | false => rw [hb] at h; exact runW_mono (h : RunW P n ops (o :: l) s K) hK
    | true =>
      rw [hb] at h
      unfold drawX0 at h ⊢
      cases hd : o.dst with
      | none => rw [hd] at h; exact h
      | some d =>
        rw [hd] at h
        exact ⟨h.1, condX_mono h.2 (fun h => effX_mono h fun q r h => ⟨h.1, drawW_mono h.2 hK⟩) (fun h => drawW_mono h hK)⟩

/-- The rest of a region. -/
def RunG (P : Program) (n : Nat) (ops : Array Oper) (l : List Oper) (s : StL) (K : StL → Prop) (wo : Wit ops) (wK : Wit (l, K)) : Prop := RunW P n ops l s K
@[simp ↓] theorem RunG_nil (ops : Array Oper) (s : StL) (K : StL → Prop) (wo : Wit ops) (wK : Wit (([] : List Oper), K)) : RunG P n ops [] s K wo wK = K s := rfl
@[simp ↓] theorem RunG_cons (ops : Array Oper) (o : Oper) (l : List Oper) (s : StL) (K : StL → Prop) (wo : Wit ops) (wK : Wit (o :: l, K)) :
    RunG P n ops (o :: l) s K wo wK = condX (wantPV ops s o) (opX P n o.dst s o.op (fun s' => RunG P n ops l s' K ⟨⟩ ⟨⟩) ⟨⟩) ((∀ d, o.dst = some d → d < n) ∧ RunG P n ops l (skipS s o.dst) K ⟨⟩ ⟨⟩) ⟨⟩ ⟨⟩ := RunW_cons ops o l s K
/-- The rest of a region that draws. -/
def DrawL (P : Program) (n : Nat) (ops : Array Oper) (m : Nat) (As : List Nat) (i : Nat) (l : List Oper) (s : StL) (K : StL → Prop) (wo : Wit (ops, As)) (wK : Wit (l, K)) : Prop := DrawW P n ops m As i l s K
@[simp ↓] theorem DrawL_nil (ops : Array Oper) (m : Nat) (As : List Nat) (i : Nat) (s : StL) (K : StL → Prop) (wo : Wit (ops, As)) (wK : Wit (([] : List Oper), K)) : DrawL P n ops m As i [] s K wo wK = K s := rfl
/-- One operation more. -/
def drawX (P : Program) (n : Nat) (ops : Array Oper) (m : Nat) (As : List Nat) (i : Nat) (o : Oper) (l : List Oper) (s : StL) (K : StL → Prop) (wo : Wit (ops, As)) (wK : Wit (o, l, K)) (b : Bool) : Prop :=
  match b with
  | true => drawY P n ops m As i o l s K wo wK o.dst
  | false => RunG P n ops (o :: l) s K ⟨⟩ ⟨⟩
where drawY (P : Program) (n : Nat) (ops : Array Oper) (m : Nat) (As : List Nat) (i : Nat) (o : Oper) (l : List Oper) (s : StL) (K : StL → Prop) (wo : Wit (ops, As)) (wK : Wit (o, l, K)) (dst : Option Nat) : Prop :=
  match dst with
  | none => False
  | some d => d < n ∧ condX (wantPV ops s o) (effX P s d o.op (fun q res => (res.isSome = true → As.contains i = true ∧ s.free d = true) ∧ DrawL P n ops m As (i + 1) l (app1 d q res s) K ⟨⟩ ⟨⟩) ⟨⟩)
        (DrawL P n ops m As (i + 1) l (app1 d skipPV none s) K ⟨⟩ ⟨⟩) ⟨⟩ ⟨⟩
@[simp ↓] theorem DrawL_cons (ops : Array Oper) (m : Nat) (As : List Nat) (i : Nat) (o : Oper) (l : List Oper) (s : StL) (K : StL → Prop) (wo : Wit (ops, As)) (wK : Wit (o :: l, K)) :
    DrawL P n ops m As i (o :: l) s K wo wK = drawX P n ops m As i o l s K ⟨⟩ ⟨⟩ (decide (i < m)) := by
  show DrawW P n ops m As i (o :: l) s K = _
  rw [DrawW_cons]
  cases decide (i < m) with
  | false => rfl
  | true =>
    show drawX0 P n ops m As i o l s K true = drawX.drawY P n ops m As i o l s K ⟨⟩ ⟨⟩ o.dst
    unfold drawX0 drawX.drawY
    cases o.dst <;> rfl
@[simp] theorem drawX_true (ops : Array Oper) (m : Nat) (As : List Nat) (i : Nat) (o : Oper) (l : List Oper) (s : StL) (K : StL → Prop) (wo : Wit (ops, As)) (wK : Wit (o, l, K)) : drawX P n ops m As i o l s K wo wK true = drawX.drawY P n ops m As i o l s K wo wK o.dst := rfl
@[simp] theorem drawX_false (ops : Array Oper) (m : Nat) (As : List Nat) (i : Nat) (o : Oper) (l : List Oper) (s : StL) (K : StL → Prop) (wo : Wit (ops, As)) (wK : Wit (o, l, K)) : drawX P n ops m As i o l s K wo wK false = RunG P n ops (o :: l) s K ⟨⟩ ⟨⟩ := rfl
@[simp] theorem drawY_some (ops : Array Oper) (m : Nat) (As : List Nat) (i : Nat) (o : Oper) (l : List Oper) (s : StL) (K : StL → Prop) (wo : Wit (ops, As)) (wK : Wit (o, l, K)) (d : Nat) : drawX.drawY P n ops m As i o l s K wo wK (some d) =
   (d < n ∧ condX (wantPV ops s o) (effX P s d o.op (fun q res => (res.isSome = true → As.contains i = true ∧ s.free d = true) ∧ DrawL P n ops m As (i + 1) l (app1 d q res s) K ⟨⟩ ⟨⟩) ⟨⟩)
        (DrawL P n ops m As (i + 1) l (app1 d skipPV none s) K ⟨⟩ ⟨⟩) ⟨⟩ ⟨⟩) := rfl

/-- What comes behind. -/
def SeqK (f : StL → (Exit → StL → Prop) → Prop) (Q : Exit → StL → Prop) : Exit → StL → Prop
  | .normal, s => f s Q
  | e, s => Q e s
def BlkK (id : Nat) (Q : Exit → StL → Prop) : Exit → StL → Prop
  | .exit id', s => if id' = id then Q .normal s else Q (.exit id') s
  | e, s => Q e s
def NormK (Q : Exit → StL → Prop) : StL → Prop := Q .normal

def LoopG (P : Program) (n : Nat) (c : Code) (s : StL) (Q : Exit → StL → Prop) (wc : Wit c) (wQ : Wit Q) : Prop := CodeW P n (.loop c) s Q
def DrawG (P : Program) (n : Nat) (id : Nat) (ops : Array Oper) (s : StL) (Q : Exit → StL → Prop) (wo : Wit ops) (wQ : Wit Q) : Prop := CodeW P n (.region id ops true) s Q
def wpk (P : Program) (n : Nat) : Code → StL → (Exit → StL → Prop) → Prop
  | .skip, s, Q => Q .normal s
  | .ret, s, Q => Q .ret s
  | .exit id, s, Q => Q (.exit id) s
  | .seq x y, s, Q => wpk P n x s (SeqK (fun s' Q' => wpk P n y s' Q') Q)
  | .block id c, s, Q => wpk P n c s (BlkK id Q)
  | .cond c x y, s, Q => condX (boolPV (ev s c)) (wpk P n x s Q) (wpk P n y s Q) ⟨⟩ ⟨⟩
  | .region id ops false, s, Q => RunW P n ops ops.toList s (NormK Q)
  | .region id ops true, s, Q => DrawG P n id ops s Q ⟨⟩ ⟨⟩
  | .loop c, s, Q => LoopG P n c s Q ⟨⟩ ⟨⟩
  | c, s, Q => CodeW P n c s Q
section
variable (s : StL) (Q : Exit → StL → Prop)
@[simp ↓] theorem SeqK_normal (f : StL → (Exit → StL → Prop) → Prop) : SeqK f Q .normal s = f s Q := rfl
@[simp ↓] theorem SeqK_exit (f : StL → (Exit → StL → Prop) → Prop) (i : Nat) : SeqK f Q (.exit i) s = Q (.exit i) s := rfl
@[simp ↓] theorem SeqK_ret (f : StL → (Exit → StL → Prop) → Prop) : SeqK f Q .ret s = Q .ret s := rfl
@[simp ↓] theorem BlkK_normal (id : Nat) : BlkK id Q .normal s = Q .normal s := rfl
@[simp ↓] theorem BlkK_ret (id : Nat) : BlkK id Q .ret s = Q .ret s := rfl
@[simp ↓] theorem BlkK_same (id : Nat) : BlkK id Q (.exit id) s = Q .normal s := by simp only [BlkK, if_pos]
theorem BlkK_exit (id i : Nat) : BlkK id Q (.exit i) s = if i = id then Q .normal s else Q (.exit i) s := rfl
@[simp ↓] theorem BlkK_ne (id i : Nat) (h : (i == id) = false) : BlkK id Q (.exit i) s = Q (.exit i) s := by simp only [beq_eq_false_iff_ne, ne_eq] at h; simp only [BlkK, if_neg h]
@[simp ↓] theorem NormK_s : NormK Q s = Q .normal s := rfl
@[simp ↓] theorem wpk_skip : wpk P n .skip s Q = Q .normal s := rfl
@[simp ↓] theorem wpk_ret : wpk P n .ret s Q = Q .ret s := rfl
@[simp ↓] theorem wpk_exit (id : Nat) : wpk P n (.exit id) s Q = Q (.exit id) s := rfl
@[simp ↓] theorem wpk_seq (x y : Code) : wpk P n (.seq x y) s Q = wpk P n x s (SeqK (fun s' Q' => wpk P n y s' Q') Q) := rfl
@[simp ↓] theorem wpk_block (id : Nat) (c : Code) : wpk P n (.block id c) s Q = wpk P n c s (BlkK id Q) := rfl
@[simp ↓] theorem wpk_cond (c : Operand) (x y : Code) : wpk P n (.cond c x y) s Q = condX (boolPV (ev s c)) (wpk P n x s Q) (wpk P n y s Q) ⟨⟩ ⟨⟩ := rfl
@[simp ↓] theorem wpk_region (id : Nat) (l : List Oper) : wpk P n (.region id l.toArray false) s Q = RunG P n l.toArray l s (NormK Q) ⟨⟩ ⟨⟩ := rfl
end

theorem wpk_sound : ∀ (c : Code) (s : StL) (Q : Exit → StL → Prop), wpk P n c s Q → CodeW P n c s Q
  | .skip, s, Q, h => codeW_skip h
  | .ret, s, Q, h => codeW_ret h
  | .exit id, s, Q, h => codeW_exit h
  | .seq x y, s, Q, h => codeW_seq fun K hK => (wpk_sound x s _ h).mono fun e s' hq => by
      cases e with
      | normal => exact hK s' (wpk_sound y s' Q hq)
      | exit id => exact hq
      | goto l => exact hq
      | ret => exact hq
      | panic ch => exact hq
      | outgrown => exact hq
  | .block id c, s, Q, h => codeW_block ((wpk_sound c s _ h).mono fun e s' hq => by
      cases e with
      | normal => exact hq
      | exit id => exact hq
      | goto l => exact hq
      | ret => exact hq
      | panic ch => exact hq
      | outgrown => exact hq)
  | .cond c x y, s, Q, h => by
      have h' : condX (boolPV (ev s c)) (wpk P n x s Q) (wpk P n y s Q) ⟨⟩ ⟨⟩ := h
      generalize he : ev s c = pv at h'
      unfold boolPV at h'
      split at h'
      · exact codeW_cond he (fun hb => wpk_sound x s Q (h'.1 hb)) (fun hb => wpk_sound y s Q (h'.2 hb))
      · exact h'.elim
  | .region id ops false, s, Q, h => codeW_region fun K hK => by
      have h' : RunW P n ops ops.toList s (NormK Q) := h
      exact runW_mono h' hK
  | .region id ops true, s, Q, h => h
  | .loop b, s, Q, h => h
  | .rangeFunc _ _ _ _, s, Q, h => h
  | .scope _, s, Q, h => h
  | .label _, s, Q, h => h
  | .goto _, s, Q, h => h
  | .refuse _, s, Q, h => h

@[simp ↓] theorem wpk_loop (s : StL) (Q : Exit → StL → Prop) (b : Code) : wpk P n (.loop b) s Q = LoopG P n b s Q ⟨⟩ ⟨⟩ := rfl

/-- What a round leaves. -/
def RoundP {ι : Type} (st : ι → StL) (J : ι → Prop) (μ : ι → Nat) (x : ι) (Q : Exit → StL → Prop) (w : Wit (st, J, μ, Q)) (e : Exit) (s' : StL) : Prop := LoopP st J μ x Q e s'

/-- A loop, by what its rounds keep. -/
theorem wk_loop {ι : Type} {s : StL} {body : Code} {Q : Exit → StL → Prop} {wc : Wit body} {wQ : Wit Q} (st : ι → StL) (J : ι → Prop) (μ : ι → Nat) (x0 : ι) (hs0 : (st x0).le s) (h0 : J x0)
    (round : ∀ x, J x → wpk P n body (st x) (RoundP st J μ x Q ⟨⟩)) : LoopG P n body s Q wc wQ :=
  cw_loop st J μ x0 h0 hs0 fun x hx => wpk_sound _ _ _ (round x hx)

section
variable {ι : Type} (st : ι → StL) (J : ι → Prop) (μ : ι → Nat) (x : ι) (Q : Exit → StL → Prop) (w : Wit (st, J, μ, Q)) (s : StL)
@[simp ↓] theorem RoundP_exit (i : Nat) : RoundP st J μ x Q w (.exit i) s = Q (.exit i) s := rfl
@[simp ↓] theorem RoundP_ret : RoundP st J μ x Q w .ret s = Q .ret s := rfl
theorem LoopP_next {st : ι → StL} {J : ι → Prop} {μ : ι → Nat} {x : ι} {Q : Exit → StL → Prop} {w : Wit (st, J, μ, Q)} {s : StL} (y : ι) (hl : (st y).le s) (hj : J y) (hm : μ y < μ x) : RoundP st J μ x Q w .normal s := ⟨y, hj, hl, hm⟩
end

/-- What a function leaves. -/
def EndP (P : Program) (fn : Func) (r : PV) (Mr : List (Nat × Res)) : Exit → StL → Prop := fun e s => (e = .normal ∨ e = .ret) ∧ RetP P fn s r Mr
@[simp ↓] theorem EndP_normal (fn : Func) (s : StL) (r : PV) (Mr : List (Nat × Res)) : EndP P fn r Mr .normal s = RetP P fn s r Mr := by simp only [EndP, true_or, true_and]
@[simp ↓] theorem EndP_ret (fn : Func) (s : StL) (r : PV) (Mr : List (Nat × Res)) : EndP P fn r Mr .ret s = RetP P fn s r Mr := by simp only [EndP, or_true, true_and]

theorem pcall_wp {f : FuncId} {fn : Func} {c : Code} {args : List TL} {r : PV} {Mr : List (Nat × Res)} (N : Nat) (hf : P.funcs[f]? = some fn) (hb : fn.body = some c) (hn : (fn.name == "runtime.NumGoroutine") = false)
    (hN : args.length + (fn.ntmps - args.length) = N) (h : wpk P N c ⟨initT 0 args, []⟩ (EndP P fn r Mr)) : PCall P f args r Mr :=
  pcall_of hf hb hn (hN ▸ wpk_sound _ _ _ h)

/-- A region that draws. -/
theorem wk_draw {id : Nat} (m : Nat) (As : List Nat) {l : List Oper} {s : StL} {Q : Exit → StL → Prop} {wo : Wit l.toArray} {wQ : Wit Q} (hm : P.follows .mixedOrders = true) (hok : drawOk l.toArray m As (depsOf l.toArray) = true)
    (h : DrawL P n l.toArray m As 0 l s (NormK Q) ⟨⟩ ⟨⟩) : DrawG P n id l.toArray s Q wo wQ := cw_draw hm hok fun K hK => drawW_mono h hK
@[simp ↓] theorem wpk_drawn (s : StL) (Q : Exit → StL → Prop) (id : Nat) (ops : Array Oper) : wpk P n (.region id ops true) s Q = DrawG P n id ops s Q ⟨⟩ ⟨⟩ := rfl

end

theorem retP_c {P : Program} {fn : Func} {s : StL} {k : Kind} {y : TL} (h : (match resPV P s fn.results.toList with
    | some pv => frzT 6 s pv
    | none => none) = some (k, y)) : RetP P fn s (.t k y) [] := by
  split at h
  · exact retP_frz (by assumption) h
  · cases h

attribute [simp ↓] CallW_eq
attribute [simp] clearPV cmpB aggCmp tget tset sameK isKeyK isKeyB intsL vsL vsP keyV keyT lookPV lowK jn updPV entPV rngPV opX effX frzZ frzQ restM Res.frzQ retE backM StL.kills Sg.to Sg.bk Sg.ok PV.mp PV.mpL Res.mp
end Go.PS
/- PS22: names for what the machine does with the bits of a number. -/
namespace Go.PS
open Go Go.RowKit
def shrI (a : Int) (n : Nat) : Int := a.fdiv (2 ^ min n IntKind.i64.bits)
def shlI (a : Int) (n : Nat) : Int := IntKind.i64.wrap (a * 2 ^ min n IntKind.i64.bits)
def andI (a b : Int) : Int := bits .and .i64 a b
def orI (a b : Int) : Int := bits .or .i64 a b
def xorI (a b : Int) : Int := bits .xor .i64 a b
@[simp] theorem shrI_fold (a : Int) (n : Nat) : a.fdiv (2 ^ min n IntKind.i64.bits) = shrI a n := rfl
@[simp] theorem shlI_fold (a : Int) (n : Nat) : IntKind.i64.wrap (a * 2 ^ min n IntKind.i64.bits) = shlI a n := rfl
@[simp] theorem shlI_fold1 (n : Nat) : IntKind.i64.wrap (2 ^ min n IntKind.i64.bits) = shlI 1 n := by simp only [shlI, Int.one_mul]
@[simp] theorem andI_fold (a b : Int) : bits .and .i64 a b = andI a b := rfl
@[simp] theorem orI_fold (a b : Int) : bits .or .i64 a b = orI a b := rfl
@[simp] theorem xorI_fold (a b : Int) : bits .xor .i64 a b = xorI a b := rfl
theorem shl1 (n : Nat) (h : n ≤ 62) : shlI 1 n = ((2 ^ n : Nat) : Int) := by
  have e : min n IntKind.i64.bits = n := by
    show min n 64 = n
    omega
  have hp : (2 : Nat) ^ n ≤ 2 ^ 62 := Nat.pow_le_pow_right (by decide) h
  unfold shlI
  rw [e, Int.one_mul]
  have h2 : ((2 : Int) ^ n) = ((2 ^ n : Nat) : Int) := by simp
  rw [h2]
  have h3 : (2 : Nat) ^ 62 = 4611686018427387904 := by decide
  generalize 2 ^ n = N at *
  exact wrap_id (by omega) (by omega)

section
variable {P : Program} {n : Nat} {s : StL}
theorem lg_frz {c : Code} {Q : Exit → StL → Prop} {wc : Wit c} {wQ : Wit Q} (z : List Nat) (h : LoopG P n c (frzZ z s) Q wc wQ) : LoopG P n c s Q wc wQ :=
  fun w0 F0 a w ⟨φ, fp, hs⟩ => h w0 F0 a w ⟨_, _, frzZ_sim hs z⟩
/-- A row of our own gets another name. -/
theorem sim_ren {w0 : Base} {F0 : Nat → Prop} {a : Act} {w : World} {φ : Nat → Value} {fp : Nat → Nat → Prop} (h : SimX w0 F0 n s a w φ fp) {t m m' ty sz : Nat} {k : Kind} {xs : List (List TL)} (ht : getT s.T t = .osl m) (hr : getM s.M m = .row ty sz k xs) (hf : s.free m' = true) (hne : (m == m') = false) :
    Sim w0 F0 n ⟨(t, .osl m') :: killT m s.T, (m', .row ty sz k xs) :: (m, .dead) :: killM m s.M⟩ a w := by
  have hk := h.kill m
  simp only [StL.free, Bool.and_eq_true] at hf
  have hdead := Res.eq_dead hf.2.1
  have hlt := of_decide_eq_true hf.2.2
  have hne0 : m ≠ m' := by
    rintro rfl
    simp at hne
  have h0 : ∀ g, ¬ fp m' g := by
    have := h.res m'
    rw [hdead] at this
    exact this
  let φ' : Nat → Value := fun q => if q = m' then φ m else φ q
  let fp' : Nat → Nat → Prop := fun q g => if q = m' then fp m g else if q = m then False else fp q g
  have hφn : ∀ q, q ≠ m' → φ' q = φ q := fun q hq => by simp [φ', hq]
  have hS : ∀ k g, Stb w0 w fp k g → Stb w0 w fp' k g := fun k g hg => ⟨hg.1, fun q hq => by
    simp only [fp'] at hq
    split at hq
    · exact hg.2.1 m hq
    · split at hq
      · exact hq
      · exact hg.2.1 q hq, hg.2.2⟩
  refine ⟨φ', fp', ⟨fun q => ?_, fun q q' g h1 h2 => ?_, fun q g hq => ?_, fun u => ?_, h.evo, h.size, h.dfr, fun q hq => (hφn q (by omega)).trans (h.fix q hq)⟩⟩
  · show ResRep _ _ _ (getM ((m', _) :: (m, .dead) :: killM m s.M) q) _ _
    simp only [getM]
    by_cases e1 : m' = q
    · subst e1
      rw [if_pos rfl]
      have hres := h.res m
      rw [hr] at hres
      have e2 : fp' m' = fp m := by funext g; simp [fp']
      have e3 : φ' m' = φ m := by simp [φ']
      rw [e2, e3]
      exact (hres.keep (fun _ _ => rfl) (fun _ _ _ => rfl) hS).rename fun q hq => by simp [Res.men] at hq
    · rw [if_neg e1]
      by_cases e2 : m = q
      · subst e2
        rw [if_pos rfl]
        intro g hg
        simp [fp', hne0] at hg
      · rw [if_neg e2]
        have e3 : fp' q = fp q := by funext g; simp [fp', Ne.symm e1, Ne.symm e2]
        rw [e3, hφn q (Ne.symm e1)]
        refine ((hk.res q).keep (fun _ _ => rfl) (fun _ _ _ => rfl) hS).rename fun q' hq' => hφn q' ?_
        rintro rfl
        rw [getM_men (all_killM q' m hf.1.2) q] at hq'
        cases hq'
  · simp only [fp'] at h1 h2
    by_cases e1 : q = m'
    · rw [if_pos e1] at h1
      by_cases e2 : q' = m'
      · rw [e1, e2]
      · rw [if_neg e2] at h2
        by_cases e3 : q' = m
        · rw [if_pos e3] at h2
          exact h2.elim
        · rw [if_neg e3] at h2
          exact absurd (h.disj q' m g h2 h1) e3
    · rw [if_neg e1] at h1
      by_cases e3 : q = m
      · rw [if_pos e3] at h1
        exact h1.elim
      · rw [if_neg e3] at h1
        by_cases e2 : q' = m'
        · rw [if_pos e2] at h2
          exact absurd (h.disj q m g h1 h2) e3
        · rw [if_neg e2] at h2
          by_cases e4 : q' = m
          · rw [if_pos e4] at h2
            exact h2.elim
          · rw [if_neg e4] at h2
            exact h.disj q q' g h1 h2
  · simp only [fp'] at hq
    split at hq
    · exact h.old m g hq
    · split at hq
      · exact hq.elim
      · exact h.old q g hq
  · show PVRep _ _ _ (getT ((t, .osl m') :: killT m s.T) u) _
    simp only [getT]
    by_cases e : t = u
    · subst e
      rw [if_pos rfl]
      have := h.tmp t
      rw [ht] at this
      generalize a.tmps.getD t Go.undef = v at this
      cases this with
      | osl hφ => exact .osl (by simp [φ', hφ])
    · rw [if_neg e]
      refine ((hk.tmp u).mono (fun _ _ _ => rfl) hS).rename fun q' hq' => hφn q' ?_
      rintro rfl
      rw [show (s.kill m).T = killT m s.T from rfl, getT_men (all_killT q' m hf.1.1) u] at hq'
      cases hq'
theorem sim_mat {w0 : Base} {F0 : Nat → Prop} {a : Act} {w : World} {φ : Nat → Value} {fp : Nat → Nat → Prop} (h : SimX w0 F0 n s a w φ fp) {t m m' t0 L : Nat} (t1 : Nat) {k : Kind} (ht : getT s.T t = .osl m) (hr : getM s.M m = .row t0 1 k (List.replicate L [.v (.slice none 0 0)])) (hL : 0 < L) (hf : s.free m' = true) (hne : (m == m') = false) :
    Sim w0 F0 n ⟨(t, .mx m' 0 0 0) :: killT m s.T, (m', .mat t0 t1 (List.replicate L [])) :: (m, .dead) :: killM m s.M⟩ a w := by
  have hk := h.kill m
  simp only [StL.free, Bool.and_eq_true] at hf
  have hdead := Res.eq_dead hf.2.1
  have hlt := of_decide_eq_true hf.2.2
  have hne0 : m ≠ m' := by
    rintro rfl
    simp at hne
  have h0 : ∀ g, ¬ fp m' g := by
    have := h.res m'
    rw [hdead] at this
    exact this
  let φ' : Nat → Value := fun q => if q = m' then .agg (#[φ m] ++ Array.replicate L (.slice none 0 0)) else φ q
  let fp' : Nat → Nat → Prop := fun q g => if q = m' then fp m g else if q = m then False else fp q g
  have hφn : ∀ q, q ≠ m' → φ' q = φ q := fun q hq => by simp [φ', hq]
  have hS : ∀ k g, Stb w0 w fp k g → Stb w0 w fp' k g := fun k g hg => ⟨hg.1, fun q hq => by
    simp only [fp'] at hq
    split at hq
    · exact hg.2.1 m hq
    · split at hq
      · exact hq
      · exact hg.2.1 q hq, hg.2.2⟩
  refine ⟨φ', fp', ⟨fun q => ?_, fun q q' g h1 h2 => ?_, fun q g hq => ?_, fun u => ?_, h.evo, h.size, h.dfr, fun q hq => (hφn q (by omega)).trans (h.fix q hq)⟩⟩
  · show ResRep _ _ _ (getM ((m', _) :: (m, .dead) :: killM m s.M) q) _ _
    simp only [getM]
    by_cases e1 : m' = q
    · subst e1
      rw [if_pos rfl]
      have hres := h.res m
      rw [hr] at hres
      have e2 : fp' m' = fp m := by funext g; simp [fp']
      have e3 : φ' m' = .agg (#[φ m] ++ Array.replicate L (.slice none 0 0)) := by simp [φ']
      rw [e2, e3]
      obtain ⟨cells, hown, hbd, hlx, hrep⟩ := hres
      have hl : (List.replicate L [TL.v (.slice none 0 0)]).length = L := by simp
      rw [hl] at hown hbd
      obtain ⟨hown, hF⟩ := hown.resolve_right (by
        rintro ⟨h1, _⟩
        have := congrArg List.length h1
        simp at this
        omega)
      obtain ⟨hcl, hor⟩ := hown
      obtain ⟨g, cap, cur, hv, hb0, hh, hc1, hc2, hc3, htk⟩ := hor.resolve_left (by rintro ⟨_, h1⟩; omega)
      have hX : ∀ (i : Nat) (r : List Int), (List.replicate L ([] : List Int))[i]? = some r → i < L ∧ r = [] := fun i r h => by
        rw [List.getElem?_replicate] at h
        split at h
        · rename_i hi
          cases h
          exact ⟨hi, rfl⟩
        · cases h
      have hvs : ∀ i, i < L → (#[φ m] ++ Array.replicate L (Value.slice none 0 0))[i + 1]? = some (Value.slice none 0 0) := fun i hi => by
        rw [Array.getElem?_append_right (by simp)]
        simp [hi]
      refine ⟨_, g, cap, cur, fun _ => 0, rfl, by simp; omega, ?_, by simpa using hc1, by simpa using hbd, (hF g).2 (by rw [hv]; rfl), hh, fun i hi => ?_, fun i i' r r' hi hi' nr _ _ => absurd (hX i r hi).2 nr, fun i r hi => .inl ⟨(hX i r hi).2, hvs i (hX i r hi).1⟩⟩
      · rw [Array.getElem?_append_left (by simp)]
        simp [hv]
      · have hi' : i < L := by simpa using hi
        rw [hvs i hi']
        have h1 := hrep i 0 [.v (.slice none 0 0)] (.v (.slice none 0 0)) (by simp [hi']) rfl
        have h2 := h1.v_inv
        simp only [Nat.mul_one, Nat.add_zero] at h2
        have hjc : i < cells.length := by rw [hcl]; omega
        have h3 : cells[i]? = some (.slice none 0 0) := by
          rw [List.getElem?_eq_getElem hjc]
          simpa [List.getD_eq_getElem?_getD, List.getElem?_eq_getElem hjc] using h2
        rw [← htk, List.getElem?_take_of_lt (by omega), Array.getElem?_toList] at h3
        exact h3
    · rw [if_neg e1]
      by_cases e2 : m = q
      · subst e2
        rw [if_pos rfl]
        intro g hg
        simp [fp', hne0] at hg
      · rw [if_neg e2]
        have e3 : fp' q = fp q := by funext g; simp [fp', Ne.symm e1, Ne.symm e2]
        rw [e3, hφn q (Ne.symm e1)]
        refine ((hk.res q).keep (fun _ _ => rfl) (fun _ _ _ => rfl) hS).rename fun q' hq' => hφn q' ?_
        rintro rfl
        rw [getM_men (all_killM q' m hf.1.2) q] at hq'
        cases hq'
  · simp only [fp'] at h1 h2
    by_cases e1 : q = m'
    · rw [if_pos e1] at h1
      by_cases e2 : q' = m'
      · rw [e1, e2]
      · rw [if_neg e2] at h2
        by_cases e3 : q' = m
        · rw [if_pos e3] at h2
          exact h2.elim
        · rw [if_neg e3] at h2
          exact absurd (h.disj q' m g h2 h1) e3
    · rw [if_neg e1] at h1
      by_cases e3 : q = m
      · rw [if_pos e3] at h1
        exact h1.elim
      · rw [if_neg e3] at h1
        by_cases e2 : q' = m'
        · rw [if_pos e2] at h2
          exact absurd (h.disj q m g h1 h2) e3
        · rw [if_neg e2] at h2
          by_cases e4 : q' = m
          · rw [if_pos e4] at h2
            exact h2.elim
          · rw [if_neg e4] at h2
            exact h.disj q q' g h1 h2
  · simp only [fp'] at hq
    split at hq
    · exact h.old m g hq
    · split at hq
      · exact hq.elim
      · exact h.old q g hq
  · show PVRep _ _ _ (getT ((t, .mx m' 0 0 0) :: killT m s.T) u) _
    simp only [getT]
    by_cases e : t = u
    · subst e
      rw [if_pos rfl]
      have := h.tmp t
      rw [ht] at this
      generalize a.tmps.getD t Go.undef = v at this
      cases this with
      | osl hφ =>
        refine .mx ?_
        have e : φ' m' = .agg (#[φ m] ++ Array.replicate L (.slice none 0 0)) := by simp [φ']
        rw [e]
        show (#[φ m] ++ Array.replicate L (Value.slice none 0 0))[0]? = _
        rw [Array.getElem?_append_left (by simp), hφ]
        rfl
    · rw [if_neg e]
      refine ((hk.tmp u).mono (fun _ _ _ => rfl) hS).rename fun q' hq' => hφn q' ?_
      rintro rfl
      rw [show (s.kill m).T = killT m s.T from rfl, getT_men (all_killT q' m hf.1.1) u] at hq'
      cases hq'
theorem lg_mat {c : Code} {Q : Exit → StL → Prop} {wc : Wit c} {wQ : Wit Q} (t m m' t1 : Nat) {t0 L : Nat} {k : Kind} (ht : getT s.T t = .osl m) (hr : getM s.M m = .row t0 1 k (List.replicate L [.v (.slice none 0 0)])) (hL : 0 < L) (hf : s.free m' = true) (hne : (m == m') = false)
    (h : LoopG P n c ⟨(t, .mx m' 0 0 0) :: killT m s.T, (m', .mat t0 t1 (List.replicate L [])) :: (m, .dead) :: killM m s.M⟩ Q wc wQ) : LoopG P n c s Q wc wQ :=
  fun w0 F0 a w ⟨_, _, hs⟩ => h w0 F0 a w (sim_mat hs t1 ht hr hL hf hne)
theorem lg_ren {c : Code} {Q : Exit → StL → Prop} {wc : Wit c} {wQ : Wit Q} (t m m' : Nat) {ty sz : Nat} {k : Kind} {xs : List (List TL)} (ht : getT s.T t = .osl m) (hr : getM s.M m = .row ty sz k xs) (hf : s.free m' = true) (hne : (m == m') = false)
    (h : LoopG P n c ⟨(t, .osl m') :: killT m s.T, (m', .row ty sz k xs) :: (m, .dead) :: killM m s.M⟩ Q wc wQ) : LoopG P n c s Q wc wQ :=
  fun w0 F0 a w ⟨_, _, hs⟩ => h w0 F0 a w (sim_ren hs ht hr hf hne)
theorem lg_adoptT {c : Code} {Q : Exit → StL → Prop} {wc : Wit c} {wQ : Wit Q} (t d ty sz : Nat) {k : Kind} (ht : getT s.T t = .t k (.v (.slice none 0 0))) (hf : s.free d = true)
    (h : LoopG P n c ⟨(t, .osl d) :: s.T, (d, .row ty sz .fz []) :: s.M⟩ Q wc wQ) : LoopG P n c s Q wc wQ := cw_adoptT t d ty sz ht hf h
theorem lg_adoptM {c : Code} {Q : Exit → StL → Prop} {wc : Wit c} {wQ : Wit Q} (m off d ty sz : Nat) {k : Kind} {ty0 : Nat} {cs : List PV} (hm : getM s.M m = .blk ty0 cs) (hc : cs[off]? = some (.t k (.v (.slice none 0 0)))) (hf : s.free d = true) (hne : (m == d) = false)
    (h : LoopG P n c ⟨s.T, (m, .blk ty0 (cs.set off (.osl d))) :: (d, .row ty sz .fz []) :: s.M⟩ Q wc wQ) : LoopG P n c s Q wc wQ := cw_adoptM m off d ty sz hm hc hf hne h
end

@[simp] theorem optL_map (f : PV → Option (Bool × TL)) (k : Kind) (caps : List TL) (h : ∀ x, f (.t k x) = some (false, x)) : optL f (caps.map (PV.t k)) = some (false, caps) := by
  induction caps with
  | nil => rfl
  | cons c caps ih => simp only [List.map_cons, optL, h, ih, Bool.or_self]
end Go.PS
/- PS23: slices that may be nil; contracts with weaker words. -/
namespace Go.PS
open Go Go.RowKit
section
variable {P : Program}

/-- A list among the arguments is nil, or it is not. -/
theorem pcall_any {f : FuncId} {args : List TL} {r : PV} {Mr : List (Nat × Res)} (i : Nat) {sz : Nat} {xs : List (List TL)} (ha : args[i]? = some (.sl .any sz xs)) (hc : Callable P f)
    (h1 : xs = [] → PCall P f (args.set i (.v (.slice none 0 0))) r Mr) (h2 : PCall P f (args.set i (.sl .nn sz xs)) r Mr) : PCall P f args r Mr := by
  refine ⟨hc, fun w S vals hG hS hs hr => ?_⟩
  have hi := hr i _ ha
  have hlt : i < args.length := (List.getElem?_eq_some_iff.1 ha).1
  have key : ∀ y, TRep w S y (vals.getD i Go.undef) → ∀ (j : Nat) (x : TL), (args.set i y)[j]? = some x → TRep w S x (vals.getD j Go.undef) := by
    intro y hy j x hj
    by_cases e : i = j
    · subst e
      rw [List.getElem?_set_self hlt] at hj
      cases hj
      exact hy
    · rw [List.getElem?_set_ne e] at hj
      exact hr j x hj
  generalize hu : vals.getD i Go.undef = u at hi
  cases hi with
  | sl g hcap ht hnn hnil hbd hA hlen hrep =>
    rename_i a cap
    cases a with
    | none =>
      have h0 := hnil rfl
      subst h0
      have hx : xs = [] := List.eq_nil_of_length_eq_zero (by omega)
      subst hx
      refine (h1 rfl).2 w S vals hG hS (by simpa using hs) (key _ ?_)
      rw [hu]
      exact .v _
    | some a =>
      refine h2.2 w S vals hG hS (by simpa using hs) (key _ ?_)
      rw [hu]
      exact .sl g hcap (fun h => by cases h) (fun _ => by simp) (fun h => by cases h) hbd hA hlen hrep

theorem pcall_weak {f : FuncId} {args : List TL} {k k' : Kind} {x y : TL} (h : PCall P f args (.t k x) []) (hxy : ∀ w S S' v, TRep w S x v → TRep w S' y v) : PCall P f args (.t k' y) [] := by
  refine ⟨h.1, fun w S vals hG hS hs hr => ?_⟩
  refine Calls.mono (h.2 w S vals hG hS hs hr) ?_
  rintro e w' ⟨v, φ, fp, h1, h2, h3, h4, h5, h6⟩
  exact ⟨v, φ, fp, h1, h2, h3, h4, h5, .t (hxy _ _ _ _ h6.t_inv)⟩

theorem nil_any {sz : Nat} : ∀ w S S' v, TRep w S (.v (.slice none 0 0)) v → TRep w S' (.sl .any sz []) v := by
  intro w S S' v h
  cases h
  exact .sl (t := .any) (sz := sz) (xs := []) (a := none) (cap := 0) (fun _ _ => Go.undef) (Nat.le_refl _) (fun h => by cases h) (fun h => by cases h) (fun _ => rfl) (Nat.zero_le _) (.inl rfl) (fun e he => by cases he) (fun i j e x he => by simp at he)

/-- A tree is what a function leaves, or a word for less. -/
def RetT (P : Program) (fn : Func) (s : StL) (y : TL) : Prop :=
  ∃ pv k x, resPV P s fn.results.toList = some pv ∧ frzT 6 s pv = some (k, x) ∧ ∀ w S v, TRep w S x v → TRep w S y v
def EndT (P : Program) (fn : Func) (y : TL) : Exit → StL → Prop := fun e s => (e = .normal ∨ e = .ret) ∧ RetT P fn s y
@[simp ↓] theorem EndT_normal (fn : Func) (s : StL) (y : TL) : EndT P fn y .normal s = RetT P fn s y := by simp only [EndT, true_or, true_and]
@[simp ↓] theorem EndT_ret (fn : Func) (s : StL) (y : TL) : EndT P fn y .ret s = RetT P fn s y := by simp only [EndT, or_true, true_and]
theorem retT_c {fn : Func} {s : StL} {y : TL} (h : (match resPV P s fn.results.toList with
    | some pv => frzT 6 s pv
    | none => none).map Prod.snd = some y) : RetT P fn s y := by
  obtain ⟨⟨k, y'⟩, h', e⟩ := Option.map_eq_some_iff.1 h
  cases e
  clear h
  split at h'
  · rename_i pv hpv
    exact ⟨pv, k, y', hpv, h', fun _ _ _ h => h⟩
  · cases h'
theorem retT_nil {fn : Func} {s : StL} {sz : Nat} {xs : List (List TL)} (hx : xs = []) (h : (match resPV P s fn.results.toList with
    | some pv => frzT 6 s pv
    | none => none) = some (.fz, .v (.slice none 0 0))) : RetT P fn s (.sl .any sz xs) := by
  subst hx
  split at h
  · rename_i pv hpv
    exact ⟨pv, _, _, hpv, h, fun _ _ _ h => nil_any _ _ _ _ h⟩
  · cases h

theorem pcall_wpT {f : FuncId} {fn : Func} {c : Code} {args : List TL} {y : TL} (hf : P.funcs[f]? = some fn) (hb : fn.body = some c) (hn : (fn.name == "runtime.NumGoroutine") = false)
    (h : wpk P (args.length + (fn.ntmps - args.length)) c ⟨initT 0 args, []⟩ (EndT P fn y)) : PCall P f args (.t .ro y) [] := by
  refine ⟨⟨fn, c, hf, hb, hn⟩, fun w S vals hG hS hsz hrep => ?_⟩
  have hsim : Sim (Base.of w S) (fun _ => False) (args.length + (fn.ntmps - args.length)) ⟨initT 0 args, []⟩ { tmps := vals ++ Array.replicate (fn.ntmps - vals.size) Go.undef, defers := [] } w := by
    refine ⟨fun _ => Go.undef, fun _ _ => False, ⟨fun m g hg => hg, fun _ _ _ h1 _ => h1.elim, fun _ _ h1 => h1.elim, fun t => ?_, Evo.refl _ _, by simp [hsz], ⟨rfl, fun _ h => h, hG⟩, fun _ _ => rfl⟩⟩
    show PVRep _ _ _ (getT (initT 0 args) t) _
    rw [initT_get, if_pos (Nat.zero_le _), Nat.sub_zero]
    split
    · rename_i x hx
      have hlt : t < vals.size := by rw [hsz]; exact (List.getElem?_eq_some_iff.1 hx).1
      have e1 : (vals ++ Array.replicate (fn.ntmps - vals.size) Go.undef).getD t Go.undef = vals.getD t Go.undef := by
        simp [Array.getD_eq_getD_getElem?, Array.getElem?_append_left hlt]
      show PVRep _ _ _ _ ((vals ++ Array.replicate (fn.ntmps - vals.size) Go.undef).getD t Go.undef)
      rw [e1]
      exact .t ((hrep t x hx).mono (fun _ _ => rfl) fun g hg => ⟨hS g hg, fun _ h => h, .inr ⟨rfl, hg⟩⟩)
    · exact .undef _
  refine calls_of_wp hf hb (wp_mono (wpk_sound _ _ _ h (Base.of w S) (fun _ => False) _ w hsim) ?_)
  intro e a' w' ⟨s', ⟨he, pv, k, x, hpv, hfr, hxy⟩, φ, fp, hs'⟩
  obtain ⟨v, hv, hpr⟩ := resPV_run hs' hpv
  have h5 := frzT_rep hs' (fun g h => h) 6 pv k x v hfr hpr
  have h6 : TRep w' (Stb (Base.of w S) w' (fun _ _ => False) .ro) y v := hxy _ _ _ (h5.mono (fun _ _ => rfl) fun g hg => ⟨hg.1, hg.2.1, hg.2.2.imp id fun e => ⟨rfl, e.2⟩⟩)
  have fin : ∃ φ' fp', Evo (fun _ => False) w w' ∧ (∀ m, ResRep w' φ' (Stb (Base.of w S) w' fp') (getM [] m) (φ' m) (fp' m)) ∧ (∀ m m' g, fp' m g → fp' m' g → m = m') ∧
      (∀ m g, fp' m g → w.heap.size ≤ g ∧ g < w'.heap.size) ∧ PVRep w' φ' (Stb (Base.of w S) w' fp') (.t .ro y) v :=
    ⟨fun _ => Go.undef, fun _ _ => False, hs'.evo, fun m g hg => hg, fun _ _ _ h1 _ => h1.elim, fun _ _ h1 => h1.elim, .t h6⟩
  obtain ⟨φ', fp', h1, h2, h3, h4, h5⟩ := fin
  rcases he with rfl | rfl
  · exact ⟨hs'.dfr.1, v, hv, v, φ', fp', rfl, h1, h2, h3, h4, h5⟩
  · exact ⟨hs'.dfr.1, v, hv, v, φ', fp', rfl, h1, h2, h3, h4, h5⟩
end
end Go.PS
/- PS24: everything that is our own, given away for good: it becomes a tree. -/
namespace Go.PS
open Go Go.RowKit

def frzP (s : StL) (p : PV) : PV := match frzT 6 s p with
  | some (k, x) => .t k x
  | none => .undef
def frzA (s : StL) : StL := ⟨s.T.map fun p => (p.1, frzP s p.2), []⟩

theorem getT_map (f : PV → PV) (hf : f .undef = .undef) : ∀ (T : List (Nat × PV)) (t : Nat), getT (T.map fun p => (p.1, f p.2)) t = f (getT T t)
  | [], t => hf.symm
  | (k, p) :: T, t => by
    simp only [List.map_cons, getT]
    by_cases e : k = t
    · rw [if_pos e, if_pos e]
    · rw [if_neg e, if_neg e]
      exact getT_map f hf T t

section
variable {P : Program} {w0 : Base} {F0 : Nat → Prop} {n : Nat} {s : StL} {a : Act} {w : World}

theorem frzA_sim (h : Sim w0 F0 n s a w) : Sim w0 F0 n (frzA s) a w := by
  obtain ⟨φ, fp, h⟩ := h
  refine ⟨φ, fun _ _ => False, fun m g hg => hg, fun _ _ _ h1 _ => h1.elim, fun _ _ h1 => h1.elim, fun t => ?_, h.evo, h.size, h.dfr, h.fix⟩
  have e : getT (frzA s).T t = frzP s (getT s.T t) := getT_map (frzP s) (by simp only [frzP, frzT]) s.T t
  rw [e]
  unfold frzP
  split
  · rename_i k x hx
    exact .t (frzT_rep h h.dfr.2.1 6 _ k x _ hx (h.tmp t))
  · exact .undef _

/-- A region in which all is given away before some operations. -/
def RunZ (P : Program) (n : Nat) (ops : Array Oper) (zs : List Nat) : Nat → List Oper → StL → (StL → Prop) → Prop
  | _, [], s, K => K s
  | i, o :: l, s, K => match wantPV ops (if zs.contains i then frzA s else s) o with
    | some true => OpW P n o.dst (if zs.contains i then frzA s else s) o.op fun s' => RunZ P n ops zs (i + 1) l s' K
    | some false => (∀ d, o.dst = some d → d < n) ∧ RunZ P n ops zs (i + 1) l (skipS (if zs.contains i then frzA s else s) o.dst) K
    | none => False

theorem runZ_wp {ops : Array Oper} {zs : List Nat} {Q : Exit → Act → World → Prop} : ∀ (l : List Oper) (i : Nat) {s : StL} {a : Act} {w : World} {K : StL → Prop}, Sim w0 F0 n s a w → RunZ P n ops zs i l s K → (∀ s' a' w', K s' → Sim w0 F0 n s' a' w' → Q .normal a' w') → wpList P ops Q l a w
  | [], i, s, a, w, K, h, hr, hk => hk _ _ _ hr h
  | o :: rest, i, s, a, w, K, h, hr, hk => by
    have h' : Sim w0 F0 n (if zs.contains i then frzA s else s) a w := by
      split
      · exact frzA_sim h
      · exact h
    simp only [RunZ] at hr
    generalize (if zs.contains i then frzA s else s) = s1 at h' hr
    simp only [wpList]
    split at hr
    · rename_i hw
      rw [want_rep h' hw, if_pos rfl]
      exact .inl (opW_wp h' hr (fun s' a' w' h1 h2 => runZ_wp rest (i + 1) h2 h1 hk))
    · rename_i hw
      rw [want_rep h' hw, if_neg (by simp)]
      exact runZ_wp rest (i + 1) (skip_sim h' o.dst hr.1) hr.2 hk
    · exact hr.elim

end

section
variable {P : Program} {n : Nat}
def RunZG (P : Program) (n : Nat) (ops : Array Oper) (zs : List Nat) (i : Nat) (l : List Oper) (s : StL) (K : StL → Prop) (wo : Wit (ops, zs)) (wK : Wit (l, K)) : Prop := RunZ P n ops zs i l s K
@[simp ↓] theorem RunZG_nil (ops : Array Oper) (zs : List Nat) (i : Nat) (s : StL) (K : StL → Prop) (wo : Wit (ops, zs)) (wK : Wit (([] : List Oper), K)) : RunZG P n ops zs i [] s K wo wK = K s := rfl
@[simp ↓] theorem RunZG_cons (ops : Array Oper) (zs : List Nat) (i : Nat) (o : Oper) (l : List Oper) (s : StL) (K : StL → Prop) (wo : Wit (ops, zs)) (wK : Wit (o :: l, K)) :
    RunZG P n ops zs i (o :: l) s K wo wK = optS (some (if zs.contains i then frzA s else s)) (fun s1 => condX (wantPV ops s1 o) (opX P n o.dst s1 o.op (fun s' => RunZG P n ops zs (i + 1) l s' K ⟨⟩ ⟨⟩) ⟨⟩) ((∀ d, o.dst = some d → d < n) ∧ RunZG P n ops zs (i + 1) l (skipS s1 o.dst) K ⟨⟩ ⟨⟩) ⟨⟩ ⟨⟩) ⟨⟩ := by
  show RunZ P n ops zs i (o :: l) s K = _
  conv => lhs; unfold RunZ
  simp only [optS_some]
  generalize (if zs.contains i then frzA s else s) = s1
  cases h : wantPV ops s1 o with
  | none => rfl
  | some b =>
    cases b
    · simp only [condX_false]; rfl
    · simp only [condX_true, OpW_eq]; rfl

/-- A walk that is held. -/
def CodeH (P : Program) (n : Nat) (c : Code) (s : StL) (Q : Exit → StL → Prop) (wc : Wit c) (wQ : Wit Q) : Prop := CodeW P n c s Q
theorem codeH_go {c : Code} {s : StL} {Q : Exit → StL → Prop} {wc : Wit c} {wQ : Wit Q} (h : wpk P n c s Q) : CodeH P n c s Q wc wQ := wpk_sound _ _ _ h
theorem codeH_seq {id : Nat} {l : List Oper} {y : Code} {s : StL} {Q : Exit → StL → Prop} {wc : Wit (Code.seq (.region id l.toArray false) y)} {wQ : Wit Q} (zs : List Nat)
    (h : RunZG P n l.toArray zs 0 l s (fun s' => CodeH P n y s' Q ⟨⟩ ⟨⟩) ⟨⟩ ⟨⟩) : CodeH P n (.seq (.region id l.toArray false) y) s Q wc wQ := by
  intro w0 F0 a w hs
  refine wp_seq (wp_region ?_)
  have e1 : ∀ R : Exit → Act → World → Prop, wpOps P l.toArray R (List.range l.toArray.size) = wpList P l.toArray R l := by
    intro R
    have := wpOps_eq_wpList (P := P) (ops := l.toArray) (Q := R) l 0 (fun j => by simp)
    simpa [List.range_eq_range'] using this
  rw [e1]
  refine runZ_wp l 0 hs h fun s' a' w' h1 h2 => ?_
  exact h1 w0 F0 a' w' h2
theorem pcall_h {f : FuncId} {fn : Func} {c : Code} {args : List TL} {r : PV} {Mr : List (Nat × Res)} (hf : P.funcs[f]? = some fn) (hb : fn.body = some c) (hn : (fn.name == "runtime.NumGoroutine") = false)
    (h : CodeH P (args.length + (fn.ntmps - args.length)) c ⟨initT 0 args, []⟩ (EndP P fn r Mr) ⟨⟩ ⟨⟩) : PCall P f args r Mr := pcall_of hf hb hn h
end
attribute [simp] frzA frzP
end Go.PS
/- PS26: the bits of small numbers. -/
namespace Go.PS
open Go Go.RowKit
theorem andI_nat (a b : Nat) (ha : a < 9223372036854775808) (hb : b < 9223372036854775808) : andI (a : Int) (b : Int) = ((a &&& b : Nat) : Int) := by
  have hx : a &&& b < 2 ^ 63 := Nat.and_lt_two_pow _ (by omega)
  have h1 : (BitVec.ofInt 64 (a : Int)).toNat = a := by
    rw [BitVec.ofInt_natCast, BitVec.toNat_ofNat]; exact Nat.mod_eq_of_lt (by omega)
  have h2 : (BitVec.ofInt 64 (b : Int)).toNat = b := by
    rw [BitVec.ofInt_natCast, BitVec.toNat_ofNat]; exact Nat.mod_eq_of_lt (by omega)
  show IntKind.i64.wrap ((BitVec.ofInt 64 (a : Int) &&& BitVec.ofInt 64 (b : Int)).toNat : Int) = _
  rw [BitVec.toNat_and, h1, h2, IntKind.wrap_i64]
  omega
theorem shrI_nat (a n : Nat) (h : n ≤ 64) : shrI (a : Int) n = ((a >>> n : Nat) : Int) := by
  have e : min n IntKind.i64.bits = n := by
    show min n 64 = n
    omega
  unfold shrI
  rw [e, Nat.shiftRight_eq_div_pow]
  have h2 : ((2 : Int) ^ n) = ((2 ^ n : Nat) : Int) := by simp
  rw [h2]
  exact (Int.ofNat_fdiv a (2 ^ n)).symm
theorem and1 (a : Nat) (ha : a < 9223372036854775808) (n : Nat) (h : n ≤ 64) : andI (shrI (a : Int) n) 1 = if a.testBit n then 1 else 0 := by
  rw [shrI_nat a n h]
  have h1 : a >>> n < 9223372036854775808 := Nat.lt_of_le_of_lt (by rw [Nat.shiftRight_eq_div_pow]; exact Nat.div_le_self _ _) ha
  have := andI_nat (a >>> n) 1 h1 (by omega)
  rw [show ((1 : Nat) : Int) = 1 from rfl] at this
  rw [this, Nat.testBit, Nat.and_comm 1]
  have h2 : a >>> n &&& 1 = (a >>> n) % 2 := Nat.and_one_is_mod _
  rw [h2]
  rcases Nat.mod_two_eq_zero_or_one (a >>> n) with e | e <;> rw [e] <;> rfl
end Go.PS
/- PS27: functions that are handed memory by name. -/
namespace Go.PS
open Go Go.RowKit
section
variable {P : Program}

def initE : Nat → List PV → List (Nat × PV)
  | _, [] => []
  | i, x :: l => (i, x) :: initE (i + 1) l
theorem initE_get : ∀ (args : List PV) (i t : Nat), getT (initE i args) t = if i ≤ t then match args[t - i]? with | some x => x | none => .undef else .undef
  | [], i, t => by simp [initE, getT]
  | x :: l, i, t => by
    simp only [initE, getT]
    by_cases e : i = t
    · subst e; simp
    · rw [if_neg e, initE_get l (i + 1) t]
      by_cases h1 : i + 1 ≤ t
      · rw [if_pos h1, if_pos (by omega)]
        have : t - i = (t - (i + 1)) + 1 := by omega
        rw [this, List.getElem?_cons_succ]
      · rw [if_neg h1, if_neg (by omega)]

/-- What a body leaves of what it was handed. -/
def RetE (P : Program) (fn : Func) (s : StL) (r : PV) (M' : List (Nat × Res)) : Prop :=
  resPV P s fn.results.toList = some r ∧ ∀ q ∈ M', getM M' q.1 = getM s.M q.1 ∨ getM M' q.1 = .dead
def EndE (P : Program) (fn : Func) (r : PV) (M' : List (Nat × Res)) : Exit → StL → Prop := fun e s => (e = .normal ∨ e = .ret) ∧ RetE P fn s r M'
@[simp ↓] theorem EndE_normal (fn : Func) (s : StL) (r : PV) (M' : List (Nat × Res)) : EndE P fn r M' .normal s = RetE P fn s r M' := by simp only [EndE, true_or, true_and]
@[simp ↓] theorem EndE_ret (fn : Func) (s : StL) (r : PV) (M' : List (Nat × Res)) : EndE P fn r M' .ret s = RetE P fn s r M' := by simp only [EndE, or_true, true_and]
theorem retE_c {fn : Func} {s : StL} {r : PV} {M' : List (Nat × Res)} (h : resPV P s fn.results.toList = some r) (h' : ∀ q ∈ M', getM M' q.1 = getM s.M q.1 ∨ getM M' q.1 = .dead) : RetE P fn s r M' := ⟨h, h'⟩

/-- The same; what is left is told by a word. -/
def EndEP (P : Program) (fn : Func) (Post : PV → List (Nat × Res) → Prop) : Exit → StL → Prop := fun e s => (e = .normal ∨ e = .ret) ∧ ∃ r M', Post r M' ∧ RetE P fn s r M'
/-- What a body leaves. -/
def RetEP (P : Program) (fn : Func) (Post : PV → List (Nat × Res) → Prop) (s : StL) : Prop := ∃ r M', Post r M' ∧ RetE P fn s r M'
@[simp ↓] theorem EndEP_normal (fn : Func) (s : StL) (Post : PV → List (Nat × Res) → Prop) : EndEP P fn Post .normal s = RetEP P fn Post s := by simp only [EndEP, RetEP, true_or, true_and]
@[simp ↓] theorem EndEP_ret (fn : Func) (s : StL) (Post : PV → List (Nat × Res) → Prop) : EndEP P fn Post .ret s = RetEP P fn Post s := by simp only [EndEP, RetEP, or_true, true_and]
theorem retEP_c {fn : Func} {s : StL} {Post : PV → List (Nat × Res) → Prop} (r : PV) (M' : List (Nat × Res)) (hP : Post r M') (h : resPV P s fn.results.toList = some r) (h' : ∀ q ∈ M', getM M' q.1 = getM s.M q.1 ∨ getM M' q.1 = .dead) : RetEP P fn Post s := ⟨r, M', hP, h, h'⟩

theorem ecallP_of {f : FuncId} {fn : Func} {c : Code} {args : List PV} {M : List (Nat × Res)} {Post : PV → List (Nat × Res) → Prop} (hf : P.funcs[f]? = some fn) (hb : fn.body = some c) (hn : (fn.name == "runtime.NumGoroutine") = false)
    (h : CodeW P (args.length + (fn.ntmps - args.length)) c ⟨initE 0 args, M⟩ (EndEP P fn Post)) : ECallP P f args M Post := by
  refine ⟨⟨fn, c, hf, hb, hn⟩, fun w S φ fp vals hH => ?_⟩
  have hS : ∀ k g, (k = Kind.ro ∧ S g) → Stb (Base.on w S φ fp) w fp k g := fun k g hg => ⟨(hH.stays g hg.2).1, (hH.stays g hg.2).2, .inr hg⟩
  have hsim : Sim (Base.on w S φ fp) (fun g => ∃ m, fp m g) (args.length + (fn.ntmps - args.length)) ⟨initE 0 args, M⟩ { tmps := vals ++ Array.replicate (fn.ntmps - vals.size) Go.undef, defers := [] } w := by
    refine ⟨φ, fp, ⟨fun m => (hH.res m).keep (fun _ _ => rfl) (fun _ _ _ => rfl) hS, hH.disj, fun m g hg => ⟨hH.lt m g hg, .inl ⟨m, hg⟩⟩, fun t => ?_, Evo.refl _ _, by simp [hH.size], ⟨rfl, fun _ h => h, hH.gl⟩, fun _ _ => rfl⟩⟩
    show PVRep _ _ _ (getT (initE 0 args) t) _
    rw [initE_get, if_pos (Nat.zero_le _), Nat.sub_zero]
    split
    · rename_i x hx
      have hlt : t < vals.size := by rw [hH.size]; exact (List.getElem?_eq_some_iff.1 hx).1
      have e1 : (vals ++ Array.replicate (fn.ntmps - vals.size) Go.undef).getD t Go.undef = vals.getD t Go.undef := by
        simp [Array.getD_eq_getD_getElem?, Array.getElem?_append_left hlt]
      show PVRep _ _ _ _ ((vals ++ Array.replicate (fn.ntmps - vals.size) Go.undef).getD t Go.undef)
      rw [e1]
      exact (hH.args t x hx).mono (fun _ _ _ => rfl) hS
    · exact .undef _
  refine calls_of_wp hf hb (wp_mono (h _ _ _ w hsim) ?_)
  intro e a' w' ⟨s', ⟨he, r, M', hPost, hres, hM⟩, hs⟩
  have hle : StL.le ⟨s'.T, M'⟩ s' := ⟨fun t => .inl rfl, fun m => by
    by_cases hm : ∃ q ∈ M', q.1 = m
    · obtain ⟨q, hq, rfl⟩ := hm
      exact hM q hq
    · exact .inr (getM_none fun q hq e => hm ⟨q, hq, e⟩)⟩
  obtain ⟨v0, hv0⟩ : ∃ v, (results fn a'.tmps).run P w' = .ok v w' := by
    obtain ⟨φ', fp', hx⟩ := hs
    obtain ⟨v, hv, _⟩ := resPV_run hx hres
    exact ⟨v, hv⟩
  obtain ⟨φ', fp', hx⟩ := hs
  obtain ⟨v, hv, hpr⟩ := resPV_run hx hres
  have key : ∃ fp'', SimX (Base.on w S φ fp) (fun g => ∃ m, fp m g) (args.length + (fn.ntmps - args.length)) ⟨s'.T, M'⟩ a' w' φ' fp'' ∧ ∀ k g, Stb (Base.on w S φ fp) w' fp' k g → Stb (Base.on w S φ fp) w' fp'' k g := by
    refine ⟨fun m g => fp' m g ∧ getM M' m ≠ .dead, ?_, fun k g hg => ⟨hg.1, fun m hm => hg.2.1 m hm.1, hg.2.2⟩⟩
    have hS : ∀ k g, Stb (Base.on w S φ fp) w' fp' k g → Stb (Base.on w S φ fp) w' (fun m g => fp' m g ∧ getM M' m ≠ .dead) k g := fun k g hg => ⟨hg.1, fun m hm => hg.2.1 m hm.1, hg.2.2⟩
    refine ⟨fun m => ?_, fun m m' g h1 h2 => hx.disj m m' g h1.1 h2.1, fun m g hm => hx.old m g hm.1, fun t => (hx.tmp t).mono (fun k g _ => rfl) hS, hx.evo, hx.size, hx.dfr, hx.fix⟩
    show ResRep _ _ _ (getM M' m) _ _
    by_cases hd : getM M' m = .dead
    · rw [hd]
      intro g hg
      exact hg.2 rfl
    · have e := (hle.2 m).resolve_right hd
      have e' : getM M' m = getM s'.M m := e
      have hF : (fun g => fp' m g ∧ getM M' m ≠ .dead) = fp' m := by
        funext g; simp [hd]
      rw [hF, e']
      exact (hx.res m).keep (fun g _ => rfl) (fun k g _ => rfl) hS
  obtain ⟨fp'', hx', hSS⟩ := key
  have fin : Back w S φ fp r M' w' v φ' fp'' := by
    refine ⟨hx'.evo, fun m => hx'.res m, hx'.disj, fun m g hm => ?_, hx'.fix, hpr.mono (fun _ _ _ => rfl) hSS⟩
    exact hx'.old m g hm
  rcases he with rfl | rfl
  · exact ⟨hx.dfr.1, v, hv, v, φ', fp'', r, M', hPost, rfl, fin⟩
  · exact ⟨hx.dfr.1, v, hv, v, φ', fp'', r, M', hPost, rfl, fin⟩

theorem ecall_of {f : FuncId} {fn : Func} {c : Code} {args : List PV} {M : List (Nat × Res)} {r : PV} {M' : List (Nat × Res)} (hf : P.funcs[f]? = some fn) (hb : fn.body = some c) (hn : (fn.name == "runtime.NumGoroutine") = false)
    (h : CodeW P (args.length + (fn.ntmps - args.length)) c ⟨initE 0 args, M⟩ (EndE P fn r M')) : ECall P f args M r M' :=
  ecallP_of hf hb hn (h.mono fun e s he => ⟨he.1, r, M', ⟨rfl, rfl⟩, he.2⟩)
theorem ecallP_wp {f : FuncId} {fn : Func} {c : Code} {args : List PV} {M : List (Nat × Res)} {Post : PV → List (Nat × Res) → Prop} (hf : P.funcs[f]? = some fn) (hb : fn.body = some c) (hn : (fn.name == "runtime.NumGoroutine") = false)
    (h : wpk P (args.length + (fn.ntmps - args.length)) c ⟨initE 0 args, M⟩ (EndEP P fn Post)) : ECallP P f args M Post := ecallP_of hf hb hn (wpk_sound _ _ _ h)
theorem ecall_wp {f : FuncId} {fn : Func} {c : Code} {args : List PV} {M : List (Nat × Res)} {r : PV} {M' : List (Nat × Res)} (hf : P.funcs[f]? = some fn) (hb : fn.body = some c) (hn : (fn.name == "runtime.NumGoroutine") = false)
    (h : wpk P (args.length + (fn.ntmps - args.length)) c ⟨initE 0 args, M⟩ (EndE P fn r M')) : ECall P f args M r M' := ecall_of hf hb hn (wpk_sound _ _ _ h)
theorem ecall_cast {f : FuncId} {args : List PV} {M M1 M' M1' : List (Nat × Res)} {r r' : PV} (h : ECall P f args M r M') (e : M = M1) (e1 : r = r') (e2 : M' = M1') : ECall P f args M1 r' M1' := e ▸ e1 ▸ e2 ▸ h
end
attribute [simp] initE
end Go.PS
/- PS28: a new row of plain values, given away as new; bounds of a row in hand. -/
namespace Go.PS
open Go Go.RowKit
section
variable {P : Program}
theorem retP_own {fn : Func} {s : StL} {pv r : PV} {Mr : List (Nat × Res)} (m : Nat) (h1 : resPV P s fn.results.toList = some pv) (h2 : pv.nm true m = true) (h3 : (getM s.M m).nm true m = true) (h4 : pv.ren 0 = r) (h5 : [(0, (getM s.M m).ren 0)] = Mr) : RetP P fn s r Mr :=
  ⟨pv, h1, .inr ⟨m, h2, h3, h4.symm, h5.symm⟩⟩

/-- A row of plain values that a function returns reads nothing old. -/
theorem pcall_fzrow {f : FuncId} {args : List TL} {ty sz : Nat} {k : Kind} {xs : List (List TL)} (h : PCall P f args (.osl 0) [(0, .row ty sz k xs)]) (hflat : ∀ e ∈ xs, ∀ x ∈ e, ∃ v, x = TL.v v) : PCall P f args (.t .fz (.sl .any sz xs)) [] := by
  refine ⟨h.1, fun w S vals hG hS hs hr => Calls.mono (h.2 w S vals hG hS hs hr) ?_⟩
  rintro e w' ⟨v, φ, fp, rfl, hevo, hres, hdisj, hold, hv⟩
  refine ⟨v, fun _ => Go.undef, fun _ _ => False, rfl, hevo, fun m g hg => hg, fun _ _ _ h1 _ => h1.elim, fun _ _ h1 => h1.elim, .t ?_⟩
  have h0 := hres 0
  simp only [getM, if_true] at h0
  obtain ⟨cells, hown, hbd, hlen, hrep⟩ := h0
  generalize hu : v = u at hv
  cases hv with
  | @osl _ len cap ao hφ =>
  rw [hφ] at hown
  have hnew : ∀ g, fp 0 g → Stb (Base.of w S) w' (fun _ _ => False) .fz g := fun g hg => ⟨(hold 0 g hg).2, fun _ h => h, .inl (.inl (hold 0 g hg).1)⟩
  have hvv : ∀ (i j : Nat) (e : List TL) (x : TL), xs[i]? = some e → e[j]? = some x → ∃ v, x = TL.v v := fun i j e x he hx => hflat e (List.mem_of_getElem? he) x (List.mem_of_getElem? hx)
  rcases hown with ⟨hown, hF⟩ | ⟨rfl, ⟨ao', hv⟩, _⟩
  · rcases hown.2 with ⟨hv, hz⟩ | ⟨g, cap', cur, hv, _, hh, hle, _, _⟩
    · cases hv
      have hx : xs = [] := List.eq_nil_of_length_eq_zero hz
      subst hx
      exact .sl (cap := 0) (fun _ _ => Go.undef) (Nat.le_refl _) (by simp) (by simp) (by simp) (by simp) (.inl rfl) (by simp) (fun i j e x he => by simp at he)
    · cases hv
      refine .sl (fun i j => cells.getD (i * sz + j) Go.undef) hle (by simp) (by simp) (by simp) hbd (.inr ⟨g, 0, rfl, hnew g ((hF g).2 rfl), fun i j hi hj => ?_⟩) hlen fun i j e x he hx => ?_
      · have hidx : i * sz + j < cells.length := by
          rw [hown.1]
          have : (i + 1) * sz ≤ xs.length * sz := Nat.mul_le_mul_right _ hi
          rw [Nat.add_mul] at this
          omega
        have h1 := hown.cells (g := g) rfl (i * sz + j) _ (List.getElem?_eq_getElem hidx)
        rw [addr_add, Nat.zero_add] at h1
        rw [Nat.zero_add, h1, List.getD_eq_getElem?_getD, List.getElem?_eq_getElem hidx]
        rfl
      · obtain ⟨y, rfl⟩ := hvv i j e x he hx
        have := (hrep i j e _ he hx).v_inv
        rw [this]
        exact .v _
  · cases hv
    exact .sl (cap := 0) (fun _ _ => Go.undef) (Nat.le_refl _) (by simp) (by simp) (by simp) (by simp) (.inl rfl) (by simp) (fun i j e x he => by simp at he)

/-- A row in hand has a length that memory bears. -/
theorem ecall_row {f : FuncId} {args : List PV} {M : List (Nat × Res)} {r : PV} {M' : List (Nat × Res)} (m : Nat) {ty sz : Nat} {k : Kind} {xs : List (List TL)} (hm : getM M m = .row ty sz k xs) (hc : Callable P f)
    (h : xs.length ≤ 140737488355328 → ECall P f args M r M') : ECall P f args M r M' := by
  refine ⟨hc, fun w S φ fp vals hH => ?_⟩
  have := hH.res m
  rw [hm] at this
  obtain ⟨cells, _, hb, _⟩ := this
  exact (h hb).2 w S φ fp vals hH
/-- A nil slice in hand is an empty row under a new name. -/
theorem ecall_adopt {f : FuncId} {args : List PV} {M M2 : List (Nat × Res)} {r : PV} {M' : List (Nat × Res)} (m off d ty0 ty sz : Nat) {cs : List PV} {k : Kind} (h : ECall P f args M2 r M')
    (hM2 : ∀ q, getM M2 q = if q = m then .blk ty0 (cs.set off (.osl d)) else if q = d then .row ty sz .ro [] else getM M q)
    (hm : getM M m = .blk ty0 cs) (hc : cs[off]? = some (.t k (.v (.slice none 0 0)))) (hd : getM M d = .dead) (hne : m ≠ d) (h6 : d < 1000000) (hA : PV.menL d args = false) (hMm : M.all (fun p => !p.2.men d) = true) : ECall P f args M r M' := by
  refine ⟨h.1, fun w S φ fp vals hH => ?_⟩
  let φ2 : Nat → Value := fun q => if q = d then .slice none 0 0 else φ q
  have e2 : ∀ q, q ≠ d → φ2 q = φ q := fun q hq => by simp [φ2, hq]
  have hfd : ∀ g, ¬ fp d g := by
    have := hH.res d
    rw [hd] at this
    exact this
  have hH2 : Handed w S φ2 fp args M2 vals := by
    refine ⟨hH.stays, hH.size, fun q => ?_, hH.disj, hH.lt, fun i x hx => (hH.args i x hx).rename fun q hq => e2 q ?_, hH.gl⟩
    · rw [hM2 q]
      by_cases e : q = m
      · subst e
        rw [if_pos rfl, e2 q hne]
        have := hH.res q
        rw [hm] at this
        obtain ⟨g, vs, hv, hF, hh, hs, hr⟩ := this
        refine ⟨g, vs, hv, hF, hh, by simpa using hs, fun j x hx => ?_⟩
        by_cases ej : off = j
        · subst ej
          have hlt : off < cs.length := (List.getElem?_eq_some_iff.1 hc).1
          rw [List.getElem?_set_self hlt] at hx
          cases hx
          have := hr off _ hc
          have hv := this.t_inv.v_inv
          rw [hv]
          exact .osl (by simp [φ2])
        · rw [List.getElem?_set_ne ej] at hx
          refine (hr j x hx).rename fun q' hq' => e2 q' ?_
          rintro rfl
          have := getM_men hMm q
          rw [hm] at this
          simp only [Res.men] at this
          rw [PV.menL_get hx this] at hq'
          cases hq'
      · rw [if_neg e]
        by_cases e' : q = d
        · subst e'
          rw [if_pos rfl]
          exact ⟨[], .inr ⟨rfl, ⟨none, by simp [φ2]⟩, hfd⟩, by simp, by simp, fun i j e x he => by simp at he⟩
        · rw [if_neg e', e2 q e']
          refine (hH.res q).rename fun q' hq' => e2 q' ?_
          rintro rfl
          rw [getM_men hMm q] at hq'
          cases hq'
    · rintro rfl
      rw [PV.menL_get hx hA] at hq
      cases hq
  refine (h.2 w S φ2 fp vals hH2).mono ?_
  rintro e w' ⟨v, φ', fp', r', M'', hP, rfl, hB⟩
  exact ⟨v, φ', fp', r', M'', hP, rfl, ⟨hB.evo, hB.res, hB.disj, hB.old, fun q hq => (hB.fix q hq).trans (e2 q (by omega)), hB.val⟩⟩
/-- An argument may say more than a contract asks. -/
theorem pcall_arg {f : FuncId} {args : List TL} {r : PV} {Mr : List (Nat × Res)} (i : Nat) {x y : TL} (h : PCall P f args r Mr) (hi : args[i]? = some x) (hxy : ∀ w S v, TRep w S y v → TRep w S x v) : PCall P f (args.set i y) r Mr := by
  have hlt : i < args.length := (List.getElem?_eq_some_iff.1 hi).1
  refine ⟨h.1, fun w S vals hG hS hs hr => h.2 w S vals hG hS (by simpa using hs) fun j z hz => ?_⟩
  by_cases e : i = j
  · subst e
    rw [hi] at hz
    cases hz
    exact hxy _ _ _ (hr i y (List.getElem?_set_self hlt))
  · exact hr j z (by rw [List.getElem?_set_ne e]; exact hz)
theorem retT_w {fn : Func} {s : StL} {k : Kind} {x y : TL} (hxy : ∀ w S v, TRep w S x v → TRep w S y v) (h : (match resPV P s fn.results.toList with
    | some pv => frzT 6 s pv
    | none => none) = some (k, x)) : RetT P fn s y := by
  split at h
  · rename_i pv hpv
    exact ⟨pv, k, x, hpv, h, hxy⟩
  · cases h
theorem nil_any' {sz : Nat} : ∀ w S v, TRep w S (.v (.slice none 0 0)) v → TRep w S (.sl .any sz []) v := fun w S v h => nil_any w S S v h
theorem tup2_w {x y z : TL} (hxy : ∀ w S v, TRep w S x v → TRep w S y v) : ∀ w S v, TRep w S (.tup [x, z]) v → TRep w S (.tup [y, z]) v := by
  intro w S v h
  cases h with
  | tup vs hs hr =>
    refine .tup vs hs fun j u hu => ?_
    match j, hu with
    | 0, hu =>
      simp at hu
      subst hu
      exact hxy _ _ _ (hr 0 x (by simp))
    | 1, hu =>
      simp at hu
      subst hu
      exact hr 1 z (by simp)
    | j + 2, hu => simp at hu
end
end Go.PS
/- PS29: a region that draws its order, walked in every order. -/
namespace Go.PS
open Go Go.RowKit

mutual
/-- The orders in which a region can run, as a tree. -/
inductive OT where
  | nd (l : OTL)
inductive OTL where
  | nil
  | cons (i : Nat) (t : OT) (l : OTL)
end
def OTL.idx : OTL → List Nat
  | .nil => []
  | .cons i _ l => i :: l.idx
mutual
def OT.ok (ops : Array Oper) : OT → Nat → Array Bool → Bool
  | .nd l, fuel, listed => (Region.ready .any ops listed == l.idx) && OTL.ok ops l fuel listed
def OTL.ok (ops : Array Oper) : OTL → Nat → Array Bool → Bool
  | .nil, _, _ => true
  | .cons i t l, 0, listed => false
  | .cons i t l, fuel + 1, listed => (ops[i]?).isSome && OT.ok ops t fuel (listed.setIfInBounds i true) && OTL.ok ops l (fuel + 1) listed
end

section
variable {P : Program} {n : Nat} {ops : Array Oper}
/-- One operation of a region, if it is there. -/
def opO (P : Program) (n : Nat) (ops : Array Oper) (s : StL) (K : StL → Prop) (o : Option Oper) (wo : Wit ops) (wK : Wit K) : Prop :=
  match o with
  | some o => condX (wantPV ops s o) (opX P n o.dst s o.op K ⟨⟩) ((∀ d, o.dst = some d → d < n) ∧ K (skipS s o.dst)) ⟨⟩ ⟨⟩
  | none => False
@[simp] theorem opO_some (s : StL) (K : StL → Prop) (o : Oper) (wo : Wit ops) (wK : Wit K) : opO P n ops s K (some o) wo wK = condX (wantPV ops s o) (opX P n o.dst s o.op K ⟨⟩) ((∀ d, o.dst = some d → d < n) ∧ K (skipS s o.dst)) ⟨⟩ ⟨⟩ := rfl
mutual
def OT.run (P : Program) (n : Nat) (ops : Array Oper) : OT → StL → (StL → Prop) → Prop
  | .nd l, s, K => OTL.run P n ops l s K (K s)
def OTL.run (P : Program) (n : Nat) (ops : Array Oper) : OTL → StL → (StL → Prop) → Prop → Prop
  | .nil, s, K, e => e
  | .cons i t l, s, K, e => opO P n ops s (fun s' => OT.run P n ops t s' K) ops[i]? ⟨⟩ ⟨⟩ ∧ OTL.run P n ops l s K True
end
/-- The same, for the walk. -/
def OTG (P : Program) (n : Nat) (ops : Array Oper) (t : OT) (s : StL) (K : StL → Prop) (wo : Wit (ops, t)) (wK : Wit K) : Prop := OT.run P n ops t s K
def OTLG (P : Program) (n : Nat) (ops : Array Oper) (l : OTL) (s : StL) (K : StL → Prop) (wo : Wit (ops, l)) (wK : Wit K) : Prop := OTL.run P n ops l s K True
@[simp ↓] theorem OTG_nil (s : StL) (K : StL → Prop) (wo : Wit (ops, OT.nd .nil)) (wK : Wit K) : OTG P n ops (.nd .nil) s K wo wK = K s := by simp only [OTG, OT.run, OTL.run]
@[simp ↓] theorem OTG_cons (i : Nat) (t : OT) (l : OTL) (s : StL) (K : StL → Prop) (wo : Wit (ops, OT.nd (.cons i t l))) (wK : Wit K) :
    OTG P n ops (.nd (.cons i t l)) s K wo wK = (opO P n ops s (fun s' => OTG P n ops t s' K ⟨⟩ ⟨⟩) ops[i]? ⟨⟩ ⟨⟩ ∧ OTLG P n ops l s K ⟨⟩ ⟨⟩) := by simp only [OTG, OTLG, OT.run, OTL.run]
@[simp ↓] theorem OTLG_nil (s : StL) (K : StL → Prop) (wo : Wit (ops, OTL.nil)) (wK : Wit K) : OTLG P n ops .nil s K wo wK = True := by simp only [OTLG, OTL.run]
@[simp ↓] theorem OTLG_cons (i : Nat) (t : OT) (l : OTL) (s : StL) (K : StL → Prop) (wo : Wit (ops, OTL.cons i t l)) (wK : Wit K) :
    OTLG P n ops (.cons i t l) s K wo wK = (opO P n ops s (fun s' => OTG P n ops t s' K ⟨⟩ ⟨⟩) ops[i]? ⟨⟩ ⟨⟩ ∧ OTLG P n ops l s K ⟨⟩ ⟨⟩) := by simp only [OTG, OTLG, OTL.run]

variable {w0 : Base} {F0 : Nat → Prop}
theorem opO_wp {s : StL} {a : Act} {w : World} {i : Nat} {K : StL → Prop} {wo : Wit ops} {wK : Wit K} {Q : Exit → Act → World → Prop} {next : Act → World → Prop} (h : Sim w0 F0 n s a w) (hq : opO P n ops s K ops[i]? wo wK)
    (hn : ∀ s' a' w', K s' → Sim w0 F0 n s' a' w' → next a' w') : wpOp P ops Q i next a w := by
  unfold wpOp
  cases ho : ops[i]? with
  | none => rw [ho] at hq; exact hq.elim
  | some o =>
    rw [ho] at hq
    simp only
    have hq' : condX (wantPV ops s o) (opX P n o.dst s o.op K ⟨⟩) ((∀ d, o.dst = some d → d < n) ∧ K (skipS s o.dst)) ⟨⟩ ⟨⟩ := hq
    cases hw : wantPV ops s o with
    | none => rw [hw] at hq'; exact hq'.elim
    | some b =>
      rw [hw] at hq'
      rw [want_rep h hw]
      cases b with
      | true =>
        rw [if_pos rfl]
        refine .inl (opW_wp h (by rw [OpW_eq]; exact hq'.1 rfl) hn)
      | false =>
        rw [if_neg (by simp)]
        have h2 := hq'.2 rfl
        exact hn _ _ _ h2.2 (skip_sim h o.dst h2.1)

mutual
theorem OT.sound {Q : Exit → Act → World → Prop} {K : StL → Prop} (hK : ∀ s a w, K s → Sim w0 F0 n s a w → Q .normal a w) : ∀ (t : OT) (fuel : Nat) (listed : Array Bool) (s : StL) (a : Act) (w : World), t.ok ops fuel listed = true → t.run P n ops s K → Sim w0 F0 n s a w →
    wpAny P .any ops Q fuel listed a w
  | .nd l, fuel, listed, s, a, w, hok, hr, hs => by
    simp only [OT.ok, Bool.and_eq_true, beq_iff_eq] at hok
    obtain ⟨h1, h2⟩ := hok
    simp only [OT.run] at hr
    cases l with
    | nil =>
      simp only [OTL.run] at hr
      simp only [OTL.idx] at h1
      cases fuel with
      | zero => exact ⟨h1, hK s a w hr hs⟩
      | succ fuel =>
        refine ⟨fun _ => hK s a w hr hs, fun i hi => ?_⟩
        rw [h1] at hi
        cases hi
    | cons i t l =>
      cases fuel with
      | zero => simp [OTL.ok] at h2
      | succ fuel =>
        refine ⟨fun h => ?_, fun j hj => ?_⟩
        · rw [h1] at h
          cases h
        · rw [h1] at hj
          exact OTL.sound hK (.cons i t l) fuel listed s a w _ h2 hr hs j hj
theorem OTL.sound {Q : Exit → Act → World → Prop} {K : StL → Prop} (hK : ∀ s a w, K s → Sim w0 F0 n s a w → Q .normal a w) : ∀ (l : OTL) (fuel : Nat) (listed : Array Bool) (s : StL) (a : Act) (w : World) (e : Prop), l.ok ops (fuel + 1) listed = true → l.run P n ops s K e → Sim w0 F0 n s a w →
    ∀ i ∈ l.idx, wpOp P ops Q i (wpAny P .any ops Q fuel (listed.setIfInBounds i true)) a w
  | .nil, fuel, listed, s, a, w, e, hok, hr, hs => fun i hi => by cases hi
  | .cons j t l, fuel, listed, s, a, w, e, hok, hr, hs => fun i hi => by
    simp only [OTL.ok, Bool.and_eq_true] at hok
    simp only [OTL.run] at hr
    simp only [OTL.idx, List.mem_cons] at hi
    rcases hi with rfl | hi
    · exact opO_wp hs hr.1 fun s' a' w' h1 h2 => OT.sound hK t fuel _ s' a' w' hok.1.2 h1 h2
    · exact OTL.sound hK l fuel listed s a w True hok.2 hr.2 hs i hi
end

/-- A region that draws its order, in every order. -/
theorem wk_tree {id : Nat} (t : OT) {l : List Oper} {s : StL} {Q : Exit → StL → Prop} {wo : Wit l.toArray} {wQ : Wit Q} (hm : P.follows .mixedOrders = true) (hok : t.ok l.toArray l.length (Array.replicate l.length false) = true)
    (h : OTG P n l.toArray t s (NormK Q) ⟨⟩ ⟨⟩) : DrawG P n id l.toArray s Q wo wQ := by
  intro w0 F0 a w hs
  refine wp_region_any hm ?_
  have hs' : Sim w0 F0 n s a { w with drawn := w.drawn + 1 } := by
    obtain ⟨φ, fp, hx⟩ := hs
    exact ⟨φ, fp, hx.same rfl rfl rfl rfl⟩
  have hsz : l.toArray.size = l.length := by simp
  rw [hsz]
  exact OT.sound (K := NormK Q) (fun s' a' w' h1 h2 => ⟨s', h1, h2⟩) t _ _ s a _ hok h hs'
/-- The same; every order comes to a state that tells s'. -/
theorem wk_treeL {id : Nat} (t : OT) (s' : StL) {l : List Oper} {s : StL} {Q : Exit → StL → Prop} {wo : Wit l.toArray} {wQ : Wit Q} (hm : P.follows .mixedOrders = true) (hok : t.ok l.toArray l.length (Array.replicate l.length false) = true)
    (h : OTG P n l.toArray t s (fun s2 => s'.le s2) ⟨⟩ ⟨⟩) (hQ : Q .normal s') : DrawG P n id l.toArray s Q wo wQ := by
  intro w0 F0 a w hs
  refine wp_region_any hm ?_
  have hs' : Sim w0 F0 n s a { w with drawn := w.drawn + 1 } := by
    obtain ⟨φ, fp, hx⟩ := hs
    exact ⟨φ, fp, hx.same rfl rfl rfl rfl⟩
  have hsz : l.toArray.size = l.length := by simp
  rw [hsz]
  exact OT.sound (K := fun s2 => s'.le s2) (fun s2 a' w' h1 h2 => ⟨s', hQ, h2.weak h1⟩) t _ _ s a _ hok h hs'
end
end Go.PS
/- PS30: a region that draws its order: first by a plan, then in every order. -/
namespace Go.PS
open Go Go.RowKit

def drawOkB (ops : Array Oper) (m : Nat) (As : List Nat) (D : List Nat) : Bool :=
  decide (m ≤ ops.size) &&
  (List.range ops.size).all (fun i => match ops[i]? with
    | none => false
    | some o => o.after.toList.all (fun e => !Region.binds .any e || decide (e.on < i)) && (D.getD i 0 == maskOf D o) &&
        (if i < m then
          (o.dst.isSome && (o.looksAt ops).all (fun t => (List.range m).all fun j => (dstAt ops j != t) || j == i || (if j < i then dep D j i else dep D i j)) &&
            (List.range i).all (fun j => dstAt ops j != dstAt ops i) && (!As.contains i || (List.range m).all fun j => decide (j ≤ i) || dep D i j))
        else (List.range m).all fun j => dep D j i))

/-- What is known of a region that passes. -/
structure PassesB (ops : Array Oper) (m : Nat) (As : List Nat) (D : List Nat) : Prop where
  le : m ≤ ops.size
  back : ∀ i o e, ops[i]? = some o → e ∈ o.after.toList → Region.binds .any e = true → e.on < i
  fix : ∀ i o k, ops[i]? = some o → dep D k i = true → ∃ e ∈ o.after.toList, Region.binds .any e = true ∧ (e.on = k ∨ dep D k e.on = true)
  look : ∀ i o t j, i < m → ops[i]? = some o → t ∈ o.looksAt ops → j < m → dstAt ops j = t → j = i ∨ (j < i ∧ dep D j i = true) ∨ (i < j ∧ dep D i j = true)
  uniq : ∀ i j, i < m → j < m → dstAt ops i = dstAt ops j → i = j
  born : ∀ i j, i < m → j < m → As.contains i = true → i < j → dep D i j = true
  seq : ∀ i j, m ≤ i → i < ops.size → j < m → dep D j i = true

theorem passesB_of {ops : Array Oper} {m : Nat} {As D : List Nat} (h : drawOkB ops m As D = true) : PassesB ops m As D := by
  simp only [drawOkB, Bool.and_eq_true, decide_eq_true_eq, List.all_eq_true, List.mem_range] at h
  obtain ⟨hle, hall⟩ := h
  have hat : ∀ i o, ops[i]? = some o → (∀ e ∈ o.after.toList, Region.binds .any e = true → e.on < i) ∧ D.getD i 0 = maskOf D o ∧
      (i < m → (∀ t ∈ o.looksAt ops, ∀ j, j < m → dstAt ops j = t → j = i ∨ (j < i ∧ dep D j i = true) ∨ (i < j ∧ dep D i j = true)) ∧ (∀ j, j < i → dstAt ops j ≠ dstAt ops i) ∧ (As.contains i = true → ∀ j, j < m → i < j → dep D i j = true)) ∧
      (m ≤ i → ∀ j, j < m → dep D j i = true) := by
    intro i o hi
    have hlt : i < ops.size := (Array.getElem?_eq_some_iff.1 hi).1
    have := hall i hlt
    rw [hi] at this
    simp only [Bool.and_eq_true, beq_iff_eq] at this
    obtain ⟨⟨h1, h2⟩, h3⟩ := this
    refine ⟨fun e he hb => ?_, h2, fun him => ?_, fun him => ?_⟩
    · have := List.all_eq_true.1 h1 e he
      simpa [hb] using this
    · rw [if_pos him] at h3
      simp only [Bool.and_eq_true] at h3
      obtain ⟨⟨⟨_, h4⟩, h5⟩, h6⟩ := h3
      refine ⟨fun t ht j hj hd => ?_, fun j hj => ?_, fun hA j hj hij => ?_⟩
      · have := List.all_eq_true.1 (List.all_eq_true.1 h4 t ht) j (List.mem_range.2 hj)
        simp only [Bool.or_eq_true, bne_iff_ne, ne_eq, beq_iff_eq] at this
        rcases this with (h7 | h7) | h7
        · exact absurd hd h7
        · exact .inl h7
        · by_cases hji : j < i
          · rw [if_pos hji] at h7; exact .inr (.inl ⟨hji, h7⟩)
          · rw [if_neg hji] at h7
            by_cases e : j = i
            · exact .inl e
            · exact .inr (.inr ⟨by omega, h7⟩)
      · have := List.all_eq_true.1 h5 j (List.mem_range.2 hj)
        simpa using this
      · simp only [hA, Bool.not_true, Bool.false_or] at h6
        have := List.all_eq_true.1 h6 j (List.mem_range.2 hj)
        simp only [Bool.or_eq_true, decide_eq_true_eq] at this
        exact this.resolve_left (by omega)
    · rw [if_neg (by omega)] at h3
      exact fun j hj => List.all_eq_true.1 h3 j (List.mem_range.2 hj)
  have hget : ∀ i, i < ops.size → ∃ o, ops[i]? = some o := fun i hi => ⟨ops[i], by simp [hi]⟩
  refine ⟨hle, fun i o e hi he hb => (hat i o hi).1 e he hb, fun i o k hi hk => ?_, fun i o t j him hi ht hj hd => ((hat i o hi).2.2.1 him).1 t ht j hj hd, fun i j hi hj hd => ?_, fun i j hi hj hA hij => ?_, fun i j him hi hj => ?_⟩
  · have h2 := (hat i o hi).2.1
    unfold dep at hk
    rw [h2] at hk
    exact (foldl_bits D k o.after.toList 0 hk).resolve_left (by simp)
  · obtain ⟨o, ho⟩ := hget i (by omega)
    obtain ⟨o', ho'⟩ := hget j (by omega)
    rcases Nat.lt_trichotomy i j with h1 | h1 | h1
    · exact absurd hd (((hat j o' ho').2.2.1 hj).2.1 i h1)
    · exact h1
    · exact absurd hd.symm (((hat i o ho).2.2.1 hi).2.1 j h1)
  · obtain ⟨o, ho⟩ := hget i (by omega)
    exact ((hat i o ho).2.2.1 hi).2.2 hA j hj hij
  · obtain ⟨o, ho⟩ := hget i hi
    exact (hat i o ho).2.2.2 him j hj

section
variable {P : Program} {n : Nat} {ops : Array Oper} {w0 : Base} {F0 : Nat → Prop}

theorem cnt_from (m : Nat) : ∀ k, cnt (fun i => decide (m ≤ i)) k = k - m
  | 0 => by simp [cnt]
  | k + 1 => by
    simp only [cnt, cnt_from m k]
    by_cases h : m ≤ k
    · simp [h]; omega
    · simp [h]; omega
theorem cnt_ext {p q : Nat → Bool} : ∀ k, (∀ i, i < k → p i = q i) → cnt p k = cnt q k
  | 0, _ => rfl
  | k + 1, h => by
    simp only [cnt, cnt_ext k fun i hi => h i (by omega), h k (by omega)]

mutual
theorem OT.ok_mono : ∀ (t : OT) (fuel fuel' : Nat) (listed : Array Bool), fuel ≤ fuel' → t.ok ops fuel listed = true → t.ok ops fuel' listed = true
  | .nd l, fuel, fuel', listed, hle, h => by
    simp only [OT.ok, Bool.and_eq_true] at h ⊢
    exact ⟨h.1, OTL.ok_mono l fuel fuel' listed hle h.2⟩
theorem OTL.ok_mono : ∀ (l : OTL) (fuel fuel' : Nat) (listed : Array Bool), fuel ≤ fuel' → l.ok ops fuel listed = true → l.ok ops fuel' listed = true
  | .nil, fuel, fuel', listed, hle, h => rfl
  | .cons i t l, 0, fuel', listed, hle, h => by simp [OTL.ok] at h
  | .cons i t l, fuel + 1, 0, listed, hle, h => by omega
  | .cons i t l, fuel + 1, fuel' + 1, listed, hle, h => by
    simp only [OTL.ok, Bool.and_eq_true] at h ⊢
    exact ⟨⟨h.1.1, OT.ok_mono t fuel fuel' _ (by omega) h.1.2⟩, OTL.ok_mono l (fuel + 1) (fuel' + 1) listed hle h.2⟩
end

/-- The run of a region: the first part in any order, then a tree of orders. -/
theorem draw_tree {m : Nat} {As D : List Nat} (hp : PassesB ops m As D) {e : Nat → PV × Option Res} {s0 : StL} {K : StL → Prop} {Q : Exit → Act → World → Prop} (hg : ∀ j, j < m → GoodAt P n ops As e s0 j) (t : OT)
    (hok : t.ok ops (ops.size - m) (Array.ofFn fun i : Fin ops.size => decide (i.val < m)) = true)
    (hrest : OT.run P n ops t (stOf e (dstAt ops) s0 (desc m)) K) (hK : ∀ s' a' w', K s' → Sim w0 F0 n s' a' w' → Q .normal a' w') :
    ∀ (fuel : Nat) (listed : Array Bool) (a : Act) (w : World), listed.size = ops.size → cnt (fun i => !listed.getD i true) ops.size ≤ fuel →
      (∃ l : List Nat, (∀ i, i < ops.size → (listed.getD i true = true ↔ i ∈ l)) ∧ (∀ i ∈ l, i < m) ∧ (∀ i ∈ l, ∀ k, dep D k i = true → k ∈ l) ∧ Sim w0 F0 n (stOf e (dstAt ops) s0 l) a w) →
      wpAny P .any ops Q fuel listed a w := by
  have fin : ∀ (fuel : Nat) (listed : Array Bool) (a : Act) (w : World), listed.size = ops.size → cnt (fun i => !listed.getD i true) ops.size ≤ fuel → (∀ i, i < ops.size → (listed.getD i true = true ↔ i < m)) → Sim w0 F0 n (stOf e (dstAt ops) s0 (desc m)) a w →
      wpAny P .any ops Q fuel listed a w := by
    intro fuel listed a w hs hc hl hsim
    have hcn : cnt (fun i => !listed.getD i true) ops.size = ops.size - m := by
      rw [← cnt_from m]
      refine cnt_ext _ fun i hi => ?_
      have := hl i hi
      by_cases h : i < m
      · rw [this.2 h]; simp; omega
      · have h' : listed.getD i true = false := by
          cases hx : listed.getD i true with
          | false => rfl
          | true => exact absurd (this.1 hx) h
        rw [h']; simp; omega
    have hlist : listed = Array.ofFn fun i : Fin ops.size => decide (i.val < m) := by
      refine Array.ext (by simp [hs]) fun i h1 h2 => ?_
      have := hl i (by omega)
      simp only [Array.getD_eq_getD_getElem?, Array.getElem?_eq_getElem h1, Option.getD_some] at this
      simp only [Array.getElem_ofFn]
      cases hx : listed[i] with
      | true => simp [this.1 hx]
      | false =>
        have : ¬ i < m := fun h => by rw [this.2 h] at hx; cases hx
        simp [this]
    rw [hlist]
    exact OT.sound hK t fuel _ _ a w (OT.ok_mono t _ _ _ (by omega) hok) hrest hsim
  intro fuel
  -- at the turn
  have turn : ∀ (l : List Nat) (a : Act) (w : World), (∀ i ∈ l, i < m) → (∀ i, i < m → i ∈ l) → Sim w0 F0 n (stOf e (dstAt ops) s0 l) a w → Sim w0 F0 n (stOf e (dstAt ops) s0 (desc m)) a w := by
    intro l a w h1 h2 h3
    refine h3.weak ⟨fun t => .inl ?_, fun q => .inl ?_⟩
    · by_cases ht : ∃ j, j < m ∧ dstAt ops j = t
      · obtain ⟨j, hj, rfl⟩ := ht
        rw [getT_stOf_hit (mem_desc.2 hj) (fun k hk hd => hp.uniq k j (mem_desc.1 hk) hj hd), getT_stOf_hit (h2 j hj) (fun k hk hd => hp.uniq k j (h1 k hk) hj hd)]
      · rw [getT_stOf_other fun j hj hd => ht ⟨j, mem_desc.1 hj, hd⟩, getT_stOf_other fun j hj hd => ht ⟨j, h1 j hj, hd⟩]
    · by_cases ht : ∃ j, j < m ∧ dstAt ops j = q ∧ (e j).2.isSome = true
      · obtain ⟨j, hj, rfl, hs⟩ := ht
        obtain ⟨r, hr⟩ := Option.isSome_iff_exists.1 hs
        rw [getM_stOf_hit hr (mem_desc.2 hj) (fun k hk hd => hp.uniq k j (mem_desc.1 hk) hj hd), getM_stOf_hit hr (h2 j hj) (fun k hk hd => hp.uniq k j (h1 k hk) hj hd)]
      · rw [getM_stOf_other fun j hj hs hd => ht ⟨j, mem_desc.1 hj, hd, hs⟩, getM_stOf_other fun j hj hs hd => ht ⟨j, h1 j hj, hd, hs⟩]
  -- where nothing is ready all has been done
  have none_ready : ∀ (listed : Array Bool) (l : List Nat), listed.size = ops.size → (∀ i, i < ops.size → (listed.getD i true = true ↔ i ∈ l)) → Region.ready .any ops listed = [] → ∀ i, i < ops.size → i ∈ l := by
    intro listed l hs hl hr i
    induction i using Nat.strongRecOn with
    | _ i ih =>
      intro hi
      cases hx : listed.getD i true with
      | true => exact (hl i hi).1 hx
      | false =>
        exfalso
        have : i ∈ Region.ready .any ops listed := ready_iff.2 ⟨ops[i], by simp [hi], hx, fun e he hb => by
          have h1 := hp.back i ops[i] e (by simp [hi]) he hb
          have h2 := (hl e.on (by omega)).2 (ih e.on h1 (by omega))
          simpa [Array.getD_eq_getD_getElem?, show e.on < listed.size by omega] using h2⟩
        rw [hr] at this
        simp at this
  induction fuel with
  | zero =>
    rintro listed a w hs hc ⟨l, hl, hlm, hcl, hsim⟩
    have hr : Region.ready .any ops listed = [] := by
      rw [List.eq_nil_iff_forall_not_mem]
      intro i hi
      obtain ⟨o, ho, h1, _⟩ := ready_iff.1 hi
      have := cnt_zero (by omega : cnt (fun i => !listed.getD i true) ops.size = 0) i (Array.getElem?_eq_some_iff.1 ho).1
      simp [h1] at this
    have hall := none_ready listed l hs hl hr
    exact fin 0 listed a w hs hc (fun i hi => by
      rw [hl i hi]
      exact ⟨hlm i, fun h => hall i hi⟩) (turn l a w hlm (fun i hi => hall i (by have := hp.le; omega)) hsim)
  | succ fuel ih =>
    rintro listed a w hs hc ⟨l, hl, hlm, hcl, hsim⟩
    by_cases hfull : ∀ i, i < m → i ∈ l
    · exact fin (fuel + 1) listed a w hs hc (fun i hi => by
        rw [hl i hi]
        exact ⟨hlm i, fun h => hfull i h⟩) (turn l a w hlm hfull hsim)
    · refine ⟨fun hr => absurd (fun i hi => none_ready listed l hs hl hr i (by have := hp.le; omega)) hfull, fun i hi => ?_⟩
      obtain ⟨o, ho, h1, h2⟩ := ready_iff.1 hi
      have hin : i < ops.size := (Array.getElem?_eq_some_iff.1 ho).1
      have hnl : i ∉ l := fun h => by rw [(hl i hin).2 h] at h1; cases h1
      have hdeps : ∀ k, dep D k i = true → k ∈ l := by
        intro k hk
        obtain ⟨e, he, hb, hke⟩ := hp.fix i o k ho hk
        have hen := hp.back i o e ho he hb
        have h3 := h2 e he hb
        have hel : e.on ∈ l := (hl e.on (by omega)).1 (by simpa [Array.getD_eq_getD_getElem?, show e.on < listed.size by omega] using h3)
        rcases hke with rfl | hke
        · exact hel
        · exact hcl e.on hel k hke
      have him : i < m := by
        rcases Nat.lt_or_ge i m with h | h
        · exact h
        · exfalso
          exact hfull fun j hj => hdeps j (hp.seq i j h hin hj)
      obtain ⟨o', d, ho', hd, hdn, heff, hborn⟩ := hg i him
      rw [ho] at ho'
      cases ho'
      have hda : dstAt ops i = d := by simp [dstAt, ho, hd]
      -- what it looks at is as in the order of the text
      have hlook : ∀ t ∈ o.looksAt ops, getT (stOf e (dstAt ops) s0 l).T t = getT (stOf e (dstAt ops) s0 (desc i)).T t := by
        intro t ht
        by_cases hj : ∃ j, j < m ∧ dstAt ops j = t
        · obtain ⟨j, hj, rfl⟩ := hj
          rcases hp.look i o _ j him ho ht hj rfl with rfl | ⟨hji, hdj⟩ | ⟨hij, hdi⟩
          · rw [getT_stOf_other fun k hk hd' => hnl (by rw [← hp.uniq k j (hlm k hk) hj hd']; exact hk), getT_stOf_other fun k hk hd' => by
              have := mem_desc.1 hk
              have := hp.uniq k j (by omega) hj hd'
              omega]
          · rw [getT_stOf_hit (hdeps j hdj) (fun k hk hd' => hp.uniq k j (hlm k hk) hj hd'), getT_stOf_hit (mem_desc.2 hji) (fun k hk hd' => hp.uniq k j (by have := mem_desc.1 hk; omega) hj hd')]
          · rw [getT_stOf_other fun k hk hd' => by
              have := hp.uniq k j (hlm k hk) hj hd'
              subst this
              exact hnl (hcl k hk i hdi), getT_stOf_other fun k hk hd' => by
              have := mem_desc.1 hk
              have := hp.uniq k j (by omega) hj hd'
              omega]
        · rw [getT_stOf_other fun k hk hd' => hj ⟨k, hlm k hk, hd'⟩, getT_stOf_other fun k hk hd' => hj ⟨k, by have := mem_desc.1 hk; omega, hd'⟩]
      have hmem : MLe (stOf e (dstAt ops) s0 (desc i)) (stOf e (dstAt ops) s0 l) := by
        intro q
        by_cases hj : ∃ j, j < i ∧ dstAt ops j = q ∧ (e j).2.isSome = true
        · obtain ⟨j, hj, rfl, hsj⟩ := hj
          obtain ⟨r, hr⟩ := Option.isSome_iff_exists.1 hsj
          obtain ⟨_, _, _, _, _, _, hbj⟩ := hg j (by omega)
          have hjl : j ∈ l := hdeps j (hp.born j i (by omega) him (hbj hsj).1 hj)
          right
          rw [getM_stOf_hit hr (mem_desc.2 hj) (fun k hk hd' => hp.uniq k j (by have := mem_desc.1 hk; omega) (by omega) hd'), getM_stOf_hit hr hjl (fun k hk hd' => hp.uniq k j (hlm k hk) (by omega) hd')]
        · have e1 : getM (stOf e (dstAt ops) s0 (desc i)).M q = getM s0.M q := getM_stOf_other fun k hk hsk hd' => hj ⟨k, mem_desc.1 hk, hd', hsk⟩
          rw [e1]
          by_cases hj2 : ∃ j, j ∈ l ∧ dstAt ops j = q ∧ (e j).2.isSome = true
          · obtain ⟨j, hjl, rfl, hsj⟩ := hj2
            left
            obtain ⟨o2, d2, ho2, hd2, _, _, hbj⟩ := hg j (hlm j hjl)
            have hda2 : dstAt ops j = d2 := by simp [dstAt, ho2, hd2]
            have hf := (hbj hsj).2
            simp only [StL.free, Bool.and_eq_true] at hf
            have h5 := Res.eq_dead hf.2.1
            rw [← hda2] at h5
            rwa [getM_stOf_other fun k hk hsk hd' => by
              have h6 := mem_desc.1 hk
              have := hp.uniq k j (by have := hlm j hjl; omega) (hlm j hjl) hd'
              omega] at h5
          · right
            exact getM_stOf_other fun k hk hsk hd' => hj2 ⟨k, hk, hd', hsk⟩
      have heff' := heff.move hmem hlook
      have hfree : (e i).2.isSome = true → (stOf e (dstAt ops) s0 l).free d = true := by
        intro hsi
        obtain ⟨hA, hf⟩ := hborn hsi
        have hsub : ∀ j ∈ l, j < i := by
          intro j hj
          rcases Nat.lt_trichotomy j i with h | h | h
          · exact h
          · subst h; exact absurd hj hnl
          · exact absurd (hcl j hj i (hp.born i j him (hlm j hj) hA h)) hnl
        simp only [StL.free, Bool.and_eq_true] at hf ⊢
        obtain ⟨⟨hf1, hf2⟩, hf3, hf6⟩ := hf
        rw [stOf_allT] at hf1
        rw [stOf_allM] at hf2
        refine ⟨⟨stOf_allT.2 ⟨hf1.1, fun j hj => hf1.2 j (mem_desc.2 (hsub j hj))⟩, stOf_allM.2 ⟨hf2.1, fun j hj => hf2.2 j (mem_desc.2 (hsub j hj))⟩⟩, ?_, hf6⟩
        have h5 := Res.eq_dead hf3
        rw [← hda] at h5 ⊢
        rw [getM_stOf_other fun k hk hsk hd' => by
          have h6 := mem_desc.1 hk
          have := hp.uniq k i (by omega) him hd'
          omega] at h5
        rw [getM_stOf_other fun k hk hsk hd' => by
          have h6 := hsub k hk
          have := hp.uniq k i (by omega) him hd'
          omega, h5]
        rfl
      have heq : (fun q r => q = (e i).1 ∧ r = (e i).2) = fun q' r' => q' = (e i).1 ∧ r' = (e i).2 := rfl
      refine effW_wpOp ho hd hdn hsim heff' hfree fun a' w' hsim' => ?_
      have hset : ∀ j, (listed.setIfInBounds i true).getD j true = (listed.getD j true || j == i) := by
        intro j
        simp only [Array.getD_eq_getD_getElem?, Array.getElem?_setIfInBounds]
        by_cases e : i = j
        · subst e; simp [show i < listed.size by omega]
        · have e' : (j == i) = false := by simp; omega
          simp [e, e']
      refine ih _ _ _ (by simpa using hs) ?_ ⟨i :: l, fun j hj => ?_, fun j hj => ?_, fun j hj k hk => ?_, ?_⟩
      · have := cnt_one (p := fun i => !listed.getD i true) (p' := fun j => !(listed.setIfInBounds i true).getD j true) (i := i) (by simp [h1]) (fun j => by simp only [hset]; simp [bne]) hin
        omega
      · rw [hset, Bool.or_eq_true, hl j hj, List.mem_cons, beq_iff_eq]
        exact Or.comm
      · rcases List.mem_cons.1 hj with rfl | hj
        · exact him
        · exact hlm j hj
      · rcases List.mem_cons.1 hj with rfl | hj
        · exact List.mem_cons_of_mem _ (hdeps k hk)
        · exact List.mem_cons_of_mem _ (hcl j hj k hk)
      · simp only [stOf, hda]
        exact hsim'

theorem drawB_plan {m : Nat} {As : List Nat} {s0 : StL} {K : StL → Prop} (hm : m ≤ ops.size) : ∀ (k i : Nat) (e0 : Nat → PV × Option Res), i + k = m → DrawW P n ops m As i ((ops.toList.take m).drop i) (stOf e0 (dstAt ops) s0 (desc i)) K →
    ∃ e, (∀ j, j < i → e j = e0 j) ∧ (∀ j, i ≤ j → j < m → GoodAt P n ops As e s0 j) ∧ K (stOf e (dstAt ops) s0 (desc m))
  | 0, i, e0, hk, h => by
    have : i = m := by omega
    subst this
    refine ⟨e0, fun _ _ => rfl, fun j h1 h2 => by omega, ?_⟩
    rw [List.drop_of_length_le (by simp; omega)] at h
    exact h
  | k + 1, i, e0, hk, h => by
    have hi : i < ops.size := by omega
    have hdrop : (ops.toList.take m).drop i = ops[i] :: (ops.toList.take m).drop (i + 1) := by
      rw [List.drop_eq_getElem_cons (by simp; omega)]
      simp
    rw [hdrop] at h
    simp only [DrawW] at h
    rw [if_pos (by omega)] at h
    split at h
    · exact h.elim
    · rename_i d hd
      obtain ⟨hdn, h⟩ := h
      obtain ⟨q, r, ⟨hres, hrest⟩, heff⟩ := h.pick
      have hda : dstAt ops i = d := by simp [dstAt, hi, hd]
      let e1 : Nat → PV × Option Res := fun j => if j = i then (q, r) else e0 j
      have he1 : ∀ j, j < i → e1 j = e0 j := fun j hj => by simp [e1, Nat.ne_of_lt hj]
      have hst : stOf e1 (dstAt ops) s0 (desc i) = stOf e0 (dstAt ops) s0 (desc i) := stOf_congr fun j hj => he1 j (mem_desc.1 hj)
      have hst' : stOf e1 (dstAt ops) s0 (desc (i + 1)) = app1 d q r (stOf e0 (dstAt ops) s0 (desc i)) := by
        simp only [desc, stOf, hst, hda]
        simp [e1]
      rw [← hst'] at hrest
      obtain ⟨e, h1, h2, h3⟩ := drawB_plan hm k (i + 1) e1 (by omega) hrest
      refine ⟨e, fun j hj => (h1 j (by omega)).trans (he1 j hj), fun j hj1 hj2 => ?_, h3⟩
      by_cases e' : j = i
      · subst e'
        have hei : e j = (q, r) := by rw [h1 j (by omega)]; simp [e1]
        have hst2 : stOf e (dstAt ops) s0 (desc j) = stOf e0 (dstAt ops) s0 (desc j) := stOf_congr fun k hk => (h1 k (by have := mem_desc.1 hk; omega)).trans (he1 k (mem_desc.1 hk))
        refine ⟨ops[j], d, by simp [hi], hd, hdn, ?_, ?_⟩
        · rw [hst2, hei]; exact heff
        · rw [hst2, hei]; exact hres
      · exact h2 j (by omega) hj2

/-- A region that draws: a plan for the first m operations, a tree of orders for the rest. -/
theorem cw_drawT {id m : Nat} {As : List Nat} {s : StL} {Q : Exit → StL → Prop} (t : OT) (hm : P.follows .mixedOrders = true) (hok : drawOkB ops m As (depsOf ops) = true) (hot : t.ok ops (ops.size - m) (Array.ofFn fun i : Fin ops.size => decide (i.val < m)) = true)
    (h : DrawW P n ops m As 0 (ops.toList.take m) s (fun s' => OT.run P n ops t s' (Q .normal))) : CodeW P n (.region id ops true) s Q := by
  intro w0 F0 a w hs
  have hp := passesB_of hok
  obtain ⟨e, _, hgood, hrest⟩ := drawB_plan (P := P) (n := n) (ops := ops) hp.le m 0 (fun _ => (.undef, none)) (by omega) (by simpa [desc, stOf] using h)
  refine wp_region_any hm ?_
  have hs' : Sim w0 F0 n s a { w with drawn := w.drawn + 1 } := by
    obtain ⟨φ, fp, hx⟩ := hs
    exact ⟨φ, fp, hx.same rfl rfl rfl rfl⟩
  refine draw_tree (w0 := w0) (F0 := F0) (K := Q .normal) hp (fun j hj => hgood j (Nat.zero_le _) hj) t hot hrest (fun s' a' w' h1 h2 => ⟨s', h1, h2⟩) ops.size _ _ _ (by simp) ?_ ⟨[], fun i hi => ?_, by simp, by simp, hs'⟩
  · have : ∀ k, cnt (fun i => !(Array.replicate ops.size false).getD i true) k ≤ k := by
      intro k
      induction k with
      | zero => simp [cnt]
      | succ k ih => simp only [cnt]; split <;> omega
    exact this _
  · simp [Array.getD_eq_getD_getElem?, hi]

theorem wk_drawT {id : Nat} (m : Nat) (As : List Nat) (t : OT) {l : List Oper} {s : StL} {Q : Exit → StL → Prop} {wo : Wit l.toArray} {wQ : Wit Q} (hm : P.follows .mixedOrders = true) (hok : drawOkB l.toArray m As (depsOf l.toArray) = true)
    (hot : t.ok l.toArray (l.toArray.size - m) (Array.ofFn fun i : Fin l.toArray.size => decide (i.val < m)) = true)
    (h : DrawL P n l.toArray m As 0 (l.take m) s (fun s' => OTG P n l.toArray t s' (NormK Q) ⟨⟩ ⟨⟩) ⟨⟩ ⟨⟩) : DrawG P n id l.toArray s Q wo wQ := cw_drawT t hm hok hot h
end
end Go.PS
