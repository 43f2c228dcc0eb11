import Derived.Test.YtpcmmjmoiplhjaaGreatDoorPSB
set_option linter.unusedVariables false
set_option linter.unusedSimpArgs false
/- PS20: a nil slice adopted as a row of our own; the words by which states are reckoned. -/
namespace Go.PS
open Go Go.RowKit

section
variable {P : Program} {n : Nat} {s : StL}

/-- A temporary's nil slice becomes an empty row of our own. -/
theorem cw_adoptT {c : Code} {Q : Exit → StL → Prop} (t d ty sz : Nat) {k : Kind} (ht : getT s.T t = .t k (.v (.slice none 0 0))) (hf : s.free d = true) (h : CodeW P n c ⟨(t, .osl d) :: s.T, (d, .row ty sz .fz []) :: s.M⟩ Q) : CodeW P n c s Q := by
  intro w0 F0 a w ⟨φ, fp, hs⟩
  refine h w0 F0 a w ?_
  simp only [StL.free, Bool.and_eq_true] at hf
  have hv : a.tmps.getD t Go.undef = .slice none 0 0 := by
    have := hs.tmp t
    rw [ht] at this
    exact this.t_inv.v_inv
  obtain ⟨φ', fp', h', hφ⟩ := hs.regrow (of_decide_eq_true hf.2.2) hf.1.1 hf.1.2 (w' := w) (v' := .slice none 0 0) (r' := .row ty sz .fz []) (F' := fun _ => False) rfl rfl rfl (Nat.le_refl _) (fun _ _ _ => rfl)
    (fun g hg => hg.elim) (fun φ' fp' hS hSc => ⟨[], .inr ⟨rfl, ⟨none, rfl⟩, fun g hg => hg⟩, by simp, by simp, fun i j e x he => by simp at he⟩)
  refine ⟨φ', fp', ⟨h'.res, h'.disj, h'.old, fun q => ?_, h'.evo, h'.size, h'.dfr, h'.fix⟩⟩
  simp only [getT]
  by_cases e : t = q
  · subst e
    rw [if_pos rfl, hv]
    exact .osl hφ
  · rw [if_neg e]
    exact h'.tmp q

/-- The same of a cell of a block of our own. -/
theorem cw_adoptM {c : Code} {Q : Exit → StL → Prop} (m off d ty sz : Nat) {k : Kind} {ty0 : Nat} {cs : List PV} (hm : getM s.M m = .blk ty0 cs) (hc : cs[off]? = some (.t k (.v (.slice none 0 0)))) (hf : s.free d = true) (hne : (m == d) = false)
    (h : CodeW P n c ⟨s.T, (m, .blk ty0 (cs.set off (.osl d))) :: (d, .row ty sz .fz []) :: s.M⟩ Q) : CodeW P n c s Q := by
  intro w0 F0 a w ⟨φ, fp, hs⟩
  refine h w0 F0 a w ?_
  simp only [StL.free, Bool.and_eq_true] at hf
  obtain ⟨φ', fp', h', hφ⟩ := hs.regrow (of_decide_eq_true hf.2.2) hf.1.1 hf.1.2 (w' := w) (v' := .slice none 0 0) (r' := .row ty sz .fz []) (F' := fun _ => False) rfl rfl rfl (Nat.le_refl _) (fun _ _ _ => rfl)
    (fun g hg => hg.elim) (fun φ' fp' hS hSc => ⟨[], .inr ⟨rfl, ⟨none, rfl⟩, fun g hg => hg⟩, by simp, by simp, fun i j e x he => by simp at he⟩)
  have hne' : ¬ d = m := by
    rintro rfl
    simp at hne
  refine ⟨φ', fp', ⟨fun q => ?_, h'.disj, h'.old, h'.tmp, h'.evo, h'.size, h'.dfr, h'.fix⟩⟩
  have hold := h'.res q
  show ResRep _ _ _ (getM ((m, _) :: (d, _) :: s.M) q) _ _
  simp only [getM] at hold ⊢
  by_cases e : m = q
  · subst e
    rw [if_pos rfl]
    rw [if_neg hne', hm] at hold
    obtain ⟨g, vs, hv, hF, hh, hsz, hr⟩ := hold
    refine ⟨g, vs, hv, hF, hh, by simpa using hsz, fun j x hx => ?_⟩
    by_cases ej : off = j
    · subst ej
      have hlt : off < cs.length := (List.getElem?_eq_some_iff.1 hc).1
      rw [List.getElem?_set_self hlt] at hx
      cases hx
      have := hr off _ hc
      have hv := this.t_inv.v_inv
      rw [hv]
      exact .osl hφ
    · rw [List.getElem?_set_ne ej] at hx
      exact hr j x hx
  · rw [if_neg e]
    exact hold

theorem all_nil {α : Type} (p : α → Bool) : ([] : List α).all p = true := rfl

end

@[simp] theorem absPV_ptr (P : Program) (s : StL) (t m off : Nat) (v : PV) : absPV P s t (.ptr m off) v = none := rfl
@[simp] theorem absPV_oep (P : Program) (s : StL) (t m a b c : Nat) (v : PV) : absPV P s t (.oep m a b c) v = none := rfl
@[simp] theorem absPV_mx2 (P : Program) (s : StL) (t m a b : Nat) (v : PV) : absPV P s t (.mx m 2 a b) v = none := rfl
@[simp] theorem absPV_mx3 (P : Program) (s : StL) (t m i j m' : Nat) : absPV P s t (.mx m 3 i j) (.osl m') = (match getM s.M m, getM s.M m' with
    | .mat t0 t1 X, .row ty 1 _ xs => match intsOf xs with
      | some r => if szT P t = some 1 ∧ ty = t1 ∧ (m == m') = false ∧ m < 1000000 ∧ i < X.length ∧ X.getD i [0] = [] ∧ xs.isEmpty = false ∧ s.M.all (fun q => !q.2.men m) = true then
          some ⟨(killT m' s.T).map fun q => (q.1, mx0 m q.2), (m, .mat t0 t1 (X.set i r)) :: (m', .dead) :: killM m' s.M⟩ else none
      | none => none
    | _, _ => none) := rfl
@[simp] theorem intsOf_rep (n : Nat) (x : Int) : intsOf (List.replicate n [.v (.int .i64 x)]) = some (List.replicate n x) := by
  induction n with
  | zero => rfl
  | succ n ih =>
    rw [List.replicate_succ, List.replicate_succ, intsOf, ih]
    rfl
attribute [simp] mx0
attribute [simp] wantPV step valOp opVal ev_tmp ev_int ev_bool ev_str ev_sl ev_map ev_ptr ev_nilFunc ev_nilIface ev_agg ev_func getT getM newOp newVal appVal
  app1 callee retS optL lendPV loadPV partPV addrPV idxPV nilPV bndPV slicePV idxVal blkPV convPV mkIf ifCmp ptCmp isC cmpB2 lenPV builtinVal strPV datPV cntPV appStrPV usStrPV sBin sBinT sUn cellsPV lowerPV lowerL storePV buildPV partsPV fillPV rowPV appendPV shrinkPV srcPV nilCmp dstPV copyPV
  StL.free StL.kill killT killM Res.kill PV.men PV.menL Res.men Res.isDead Kind.join TL.leaf Value.oneCell' PV.noRo PV.noRoL Res.noRo PV.nm PV.nmL Res.nm PV.ren PV.renL Res.ren skipS gdPV gdV skipPV upd spl initT
  frzT optK resPV resL resOne

end Go.PS
/- PS21: the walk as a reckoning: one word for a state of the walk, rewritten by simp, that stops at calls, branches, loops and draws. -/
namespace Go.PS
open Go Go.RowKit

def boolPV : PV → Option Bool
  | .t _ (.v (.bool b)) => some b
  | _ => none
@[simp] theorem boolPV_t (k : Kind) (b : Bool) : boolPV (.t k (.v (.bool b))) = some b := rfl

/-- A mark on a continuation: what it marks simp does not look at (the mark's type speaks of it). -/
structure Wit {α : Sort _} (a : α) : Type where
  mk ::

/-- A branch. -/
def condX (o : Option Bool) (A B : Prop) (wA : Wit A) (wB : Wit B) : Prop :=
  match o with
  | some b => (b = true → A) ∧ (b = false → B)
  | none => False
@[simp] theorem condX_true (A B : Prop) (wA : Wit A) (wB : Wit B) : condX (some true) A B wA wB = A := by simp only [condX, true_implies, Bool.true_eq_false, false_implies, and_true]
@[simp] theorem condX_false (A B : Prop) (wA : Wit A) (wB : Wit B) : condX (some false) A B wA wB = B := by simp only [condX, true_implies, Bool.false_eq_true, false_implies, true_and]
@[simp] theorem condX_none (A B : Prop) (wA : Wit A) (wB : Wit B) : condX none A B wA wB = False := rfl
theorem condX_dec {p : Prop} [Decidable p] {A B : Prop} {wA : Wit A} {wB : Wit B} (h1 : p → A) (h2 : ¬ p → B) : condX (some (decide p)) A B wA wB := ⟨fun h => h1 (by simpa using h), fun h => h2 (by simpa using h)⟩
/-- A state, if there is one. -/
def optS (o : Option StL) (K : StL → Prop) (wK : Wit K) : Prop :=
  match o with
  | some s => K s
  | none => False
@[simp] theorem optS_some (s : StL) (K : StL → Prop) (wK : Wit K) : optS (some s) K wK = K s := rfl
@[simp] theorem optS_none (K : StL → Prop) (wK : Wit K) : optS none K wK = False := rfl

section
variable {P : Program} {n : Nat}

/-- A call that waits for a contract. -/
def CallG (P : Program) (s : StL) (d : Nat) (f : FuncId) (pvs : List PV) (b : Bool) (tls : List TL) (K : StL → Prop) (wK : Wit K) : Prop :=
  ((∃ r Mr, PCall P f tls r Mr ∧ (b = true → r.noRo = true ∧ Mr.all (fun p => p.2.noRo) = true) ∧ optS (retS s d r Mr) K ⟨⟩) ∨ ECallW P s d f pvs K) ∨ ∃ z, CallB P (frzZ z s) d f (pvs.map (frzQ z s)) K
theorem CallG.by {s : StL} {d : Nat} {f : FuncId} {pvs : List PV} {b : Bool} {tls : List TL} {K : StL → Prop} {wK : Wit K} {r : PV} {Mr : List (Nat × Res)} (h : PCall P f tls r Mr)
    (h2 : (b = true → r.noRo = true ∧ Mr.all (fun p => p.2.noRo) = true) ∧ optS (retS s d r Mr) K ⟨⟩) : CallG P s d f pvs b tls K wK := .inl (.inl ⟨r, Mr, h, h2⟩)
/-- A call that waits for a contract of what may be changed. -/
def CallN (P : Program) (s : StL) (d : Nat) (f : FuncId) (pvs : List PV) (K : StL → Prop) (wK : Wit K) : Prop := ECallW P s d f pvs K ∨ ∃ z, CallB P (frzZ z s) d f (pvs.map (frzQ z s)) K
theorem CallG.on {s : StL} {d : Nat} {f : FuncId} {pvs args : List PV} {b : Bool} {tls : List TL} {K : StL → Prop} {wK : Wit K} {r : PV} {M M' : List (Nat × Res)} (g : Sg) (h : ECall P f args M r M')
    (h1 : g.ok = true) (h2 : PV.mpL g.to true pvs = args) (h3 : ∀ p ∈ g, getM M p.2 = (getM s.M p.1).mp g.to true) (h4 : M.all (fun q => (g.bk q.1).isSome) = true) (h5 : optS (some (retE s d g r M')) K ⟨⟩) : CallG P s d f pvs b tls K wK :=
  .inl (.inr ⟨g, args, M, _, h, h1, h2, h3, h4, fun r' M'' e => e.1 ▸ e.2 ▸ h5⟩)
theorem CallN.on {s : StL} {d : Nat} {f : FuncId} {pvs args : List PV} {K : StL → Prop} {wK : Wit K} {r : PV} {M M' : List (Nat × Res)} (g : Sg) (h : ECall P f args M r M')
    (h1 : g.ok = true) (h2 : PV.mpL g.to true pvs = args) (h3 : ∀ p ∈ g, getM M p.2 = (getM s.M p.1).mp g.to true) (h4 : M.all (fun q => (g.bk q.1).isSome) = true) (h5 : optS (some (retE s d g r M')) K ⟨⟩) : CallN P s d f pvs K wK :=
  .inl ⟨g, args, M, _, h, h1, h2, h3, h4, fun r' M'' e => e.1 ▸ e.2 ▸ h5⟩
/-- The same behind giving up. -/
def CallGB (P : Program) (s : StL) (d : Nat) (f : FuncId) (pvs : List PV) (b : Bool) (tls : List TL) (K : StL → Prop) (wK : Wit K) : Prop :=
  (∃ r Mr, PCall P f tls r Mr ∧ (b = true → r.noRo = true ∧ Mr.all (fun p => p.2.noRo) = true) ∧ optS (retS s d r Mr) K ⟨⟩) ∨ ECallW P s d f pvs K
theorem CallGB.by {s : StL} {d : Nat} {f : FuncId} {pvs : List PV} {b : Bool} {tls : List TL} {K : StL → Prop} {wK : Wit K} {r : PV} {Mr : List (Nat × Res)} (h : PCall P f tls r Mr)
    (h2 : (b = true → r.noRo = true ∧ Mr.all (fun p => p.2.noRo) = true) ∧ optS (retS s d r Mr) K ⟨⟩) : CallGB P s d f pvs b tls K wK := .inl ⟨r, Mr, h, h2⟩
theorem CallGB.on {s : StL} {d : Nat} {f : FuncId} {pvs args : List PV} {b : Bool} {tls : List TL} {K : StL → Prop} {wK : Wit K} {r : PV} {M M' : List (Nat × Res)} (g : Sg) (h : ECall P f args M r M')
    (h1 : g.ok = true) (h2 : PV.mpL g.to true pvs = args) (h3 : ∀ p ∈ g, getM M p.2 = (getM s.M p.1).mp g.to true) (h4 : M.all (fun q => (g.bk q.1).isSome) = true) (h5 : optS (some (retE s d g r M')) K ⟨⟩) : CallGB P s d f pvs b tls K wK :=
  .inr ⟨g, args, M, _, h, h1, h2, h3, h4, fun r' M'' e => e.1 ▸ e.2 ▸ h5⟩
def callY (P : Program) (s : StL) (d : Nat) (f : FuncId) (pvs : List PV) (o : Option (Bool × List TL)) (K : StL → Prop) (wK : Wit K) : Prop :=
  match o with
  | some (b, tls) => CallGB P s d f pvs b tls K ⟨⟩
  | none => ECallW P s d f pvs K
@[simp] theorem callY_some (s : StL) (d : Nat) (f : FuncId) (pvs : List PV) (b : Bool) (tls : List TL) (K : StL → Prop) (wK : Wit K) : callY P s d f pvs (some (b, tls)) K wK = CallGB P s d f pvs b tls K ⟨⟩ := rfl
theorem CallB_eq (d : Nat) (s : StL) (f : FuncId) (pvs : List PV) (K : StL → Prop) : CallB P s d f pvs K = callY P s d f pvs (optL (lendPV 5 s) pvs) K ⟨⟩ := by
  unfold CallB
  cases h : optL (lendPV 5 s) pvs with
  | none => simp only [h, callY, false_or]
  | some p =>
    obtain ⟨b, tls⟩ := p
    simp only [h, callY, CallGB]
    rfl
def callX (P : Program) (s : StL) (d : Nat) (f : FuncId) (pvs : List PV) (o : Option (Bool × List TL)) (K : StL → Prop) (wK : Wit K) : Prop :=
  match o with
  | some (b, tls) => CallG P s d f pvs b tls K ⟨⟩
  | none => CallN P s d f pvs K ⟨⟩
@[simp] theorem callX_some (s : StL) (d : Nat) (f : FuncId) (pvs : List PV) (b : Bool) (tls : List TL) (K : StL → Prop) (wK : Wit K) : callX P s d f pvs (some (b, tls)) K wK = CallG P s d f pvs b tls K ⟨⟩ := rfl
@[simp] theorem callX_none (s : StL) (d : Nat) (f : FuncId) (pvs : List PV) (K : StL → Prop) (wK : Wit K) : callX P s d f pvs none K wK = CallN P s d f pvs K ⟨⟩ := rfl

theorem CallW_eq (d : Nat) (s : StL) (f : FuncId) (pvs : List PV) (K : StL → Prop) : CallW P n (some d) s f pvs K = (d < n ∧ callX P s d f pvs (optL (lendPV 5 s) pvs) K ⟨⟩) := by
  show (d < n ∧ (CallB P s d f pvs K ∨ ∃ z, CallB P (frzZ z s) d f (pvs.map (frzQ z s)) K)) = _
  rw [CallB_eq (s := s)]
  cases h : optL (lendPV 5 s) pvs with
  | none => rfl
  | some p => rfl

/-- The callee of a call. -/
def calleeX (P : Program) (n : Nat) (dst : Option Nat) (s : StL) (c : Call) (o : Option (FuncId × List PV)) (K : StL → Prop) (wK : Wit K) : Prop :=
  match o with
  | some (f, pvs) => CallW P n dst s f pvs K
  | none => optS (step P n dst s (.call c)) K ⟨⟩
@[simp] theorem calleeX_some (dst : Option Nat) (s : StL) (c : Call) (f : FuncId) (pvs : List PV) (K : StL → Prop) (wK : Wit K) : calleeX P n dst s c (some (f, pvs)) K wK = CallW P n dst s f pvs K := rfl
@[simp] theorem calleeX_none (dst : Option Nat) (s : StL) (c : Call) (K : StL → Prop) (wK : Wit K) : calleeX P n dst s c none K wK = optS (step P n dst s (.call c)) K ⟨⟩ := rfl

theorem StepW_eq (dst : Option Nat) (s : StL) (op : Op) (K : StL → Prop) : StepW P n dst s op K = optS (step P n dst s op) K ⟨⟩ := by
  unfold StepW optS
  cases step P n dst s op <;> rfl

/-- A step of a range over a map, that waits for what is said of it. -/
def NextG (n d m mn nn : Nat) (seen : List Nat) (k : Kind) (es : List (Value × TL)) (s : StL) (K : StL → Prop) (wK : Wit K) : Prop :=
  d < n ∧ es.length = nn ∧ ((∀ i, i < nn → i ∈ seen) → K ⟨(d, .tup [.t .fz (.v (.bool false))]) :: s.T, s.M⟩) ∧
    ∀ i p, es[i]? = some p → i ∉ seen → K ⟨(d, .tup [.t .fz (.v (.bool true)), .t .fz (.v p.1), .t k p.2]) :: s.T, (m, .iter mn nn (i :: seen)) :: s.M⟩
theorem NextG.by {n d m mn nn : Nat} {seen : List Nat} {k : Kind} {es : List (Value × TL)} {s : StL} {K : StL → Prop} {wK : Wit K} (hd : d < n) (hl : es.length = nn)
    (h1 : (∀ i, i < nn → i ∈ seen) → optS (some ⟨(d, .tup [.t .fz (.v (.bool false))]) :: s.T, s.M⟩) K ⟨⟩)
    (h2 : ∀ i p, es[i]? = some p → i ∉ seen → optS (some ⟨(d, .tup [.t .fz (.v (.bool true)), .t .fz (.v p.1), .t k p.2]) :: s.T, (m, .iter mn nn (i :: seen)) :: s.M⟩) K ⟨⟩) : NextG n d m mn nn seen k es s K wK := ⟨hd, hl, h1, h2⟩
def nextZ (n d m mn nn : Nat) (seen : List Nat) (s : StL) (r : Res) (K : StL → Prop) (wK : Wit K) : Prop :=
  match r with
  | .tab k es => NextG n d m mn nn seen k es s K ⟨⟩
  | _ => False
def nextY (n d m : Nat) (s : StL) (r : Res) (K : StL → Prop) (wK : Wit K) : Prop :=
  match r with
  | .iter mn nn seen => nextZ n d m mn nn seen s (getM s.M mn) K ⟨⟩
  | _ => False
def nextX (n : Nat) (dst : Option Nat) (s : StL) (p : PV) (K : StL → Prop) (wK : Wit K) : Prop :=
  match dst, p with
  | some d, .ptr m 0 => nextY n d m s (getM s.M m) K ⟨⟩
  | _, _ => False
@[simp] theorem nextX_ptr (n d m : Nat) (s : StL) (K : StL → Prop) (wK : Wit K) : nextX n (some d) s (.ptr m 0) K wK = nextY n d m s (getM s.M m) K ⟨⟩ := rfl
@[simp] theorem nextY_iter (n d m mn nn : Nat) (seen : List Nat) (s : StL) (K : StL → Prop) (wK : Wit K) : nextY n d m s (.iter mn nn seen) K wK = nextZ n d m mn nn seen s (getM s.M mn) K ⟨⟩ := rfl
@[simp] theorem nextZ_tab (n d m mn nn : Nat) (seen : List Nat) (s : StL) (k : Kind) (es : List (Value × TL)) (K : StL → Prop) (wK : Wit K) : nextZ n d m mn nn seen s (.tab k es) K wK = NextG n d m mn nn seen k es s K ⟨⟩ := rfl
theorem NextW_eq (dst : Option Nat) (s : StL) (p : PV) (K : StL → Prop) : NextW n dst s p K = nextX n dst s p K ⟨⟩ := by
  cases dst with
  | none => rfl
  | some d =>
    cases p with
    | ptr m off =>
      cases off with
      | succ off => rfl
      | zero =>
        simp only [NextW, nextX]
        cases hM : getM s.M m with
        | iter mn nn seen =>
          simp only [nextY]
          cases hN : getM s.M mn with
          | tab k es => rfl
          | _ => rfl
        | _ => rfl
    | _ => rfl
theorem nextX_mono {dst : Option Nat} {s : StL} {p : PV} {K K' : StL → Prop} {w : Wit K} {w' : Wit K'} (h : nextX n dst s p K w) (hK : ∀ s, K s → K' s) : nextX n dst s p K' w' := by
  unfold nextX at h ⊢
  split at h
  · unfold nextY at h ⊢
    split at h
    · unfold nextZ at h ⊢
      split at h
      · exact ⟨h.1, h.2.1, fun hh => hK _ (h.2.2.1 hh), fun i p h1 h2 => hK _ (h.2.2.2 i p h1 h2)⟩
      · exact h
    · exact h
  · exact h

/-- An operation. -/
def opX (P : Program) (n : Nat) (dst : Option Nat) (s : StL) (op : Op) (K : StL → Prop) (wK : Wit K) : Prop :=
  match op with
  | .next x false => nextX n dst s (ev s x) K ⟨⟩
  | .call c => calleeX P n dst s c (callee s c) K ⟨⟩
  | op => optS (step P n dst s op) K ⟨⟩
theorem OpW_eq (dst : Option Nat) (s : StL) (op : Op) (K : StL → Prop) : OpW P n dst s op K = opX P n dst s op K ⟨⟩ := by
  cases op with
  | call c =>
    show (match callee s c with
      | some (f, pvs) => CallW P n dst s f pvs K
      | none => StepW P n dst s (.call c) K) = calleeX P n dst s c (callee s c) K ⟨⟩
    unfold calleeX
    cases callee s c with
    | none => exact StepW_eq _ _ _ _
    | some p => rfl
  | next x b =>
    cases b with
    | false => exact NextW_eq _ _ _ _
    | true => exact StepW_eq _ _ _ _
  | _ => exact StepW_eq _ _ _ _

theorem CallW_mono {dst : Option Nat} {s : StL} {f : FuncId} {pvs : List PV} {K K' : StL → Prop} (h : CallW P n dst s f pvs K) (hK : ∀ s, K s → K' s) : CallW P n dst s f pvs K' := by
  cases dst with
  | none => exact h
  | some d =>
    obtain ⟨h1, h2⟩ := h
    exact ⟨h1, h2.imp (fun h => h.mono hK) fun ⟨z, h⟩ => ⟨z, h.mono hK⟩⟩

theorem optS_mono {o : Option StL} {K K' : StL → Prop} {wK : Wit K} {wK' : Wit K'} (h : optS o K wK) (hK : ∀ s, K s → K' s) : optS o K' wK' := by
  cases o with
  | none => exact h
  | some z => exact hK _ h

theorem opX_mono {dst : Option Nat} {s : StL} {op : Op} {K K' : StL → Prop} {w : Wit K} {w' : Wit K'} (h : opX P n dst s op K w) (hK : ∀ s, K s → K' s) : opX P n dst s op K' w' := by
  cases op with
  | call c =>
    have h' : calleeX P n dst s c (callee s c) K ⟨⟩ := h
    show calleeX P n dst s c (callee s c) K' ⟨⟩
    unfold calleeX at h' ⊢
    cases hc : callee s c with
    | none => rw [hc] at h'; exact optS_mono h' hK
    | some p => rw [hc] at h'; exact CallW_mono h' hK
  | next x b =>
    cases b with
    | false => exact nextX_mono (w := ⟨⟩) (w' := ⟨⟩) h hK
    | true => exact optS_mono (wK := ⟨⟩) (wK' := ⟨⟩) h hK
  | _ => exact optS_mono (wK := ⟨⟩) (wK' := ⟨⟩) h hK

theorem RunW_cons (ops : Array Oper) (o : Oper) (l : List Oper) (s : StL) (K : StL → Prop) :
    RunW P n ops (o :: l) s K = condX (wantPV ops s o) (opX P n o.dst s o.op (fun s' => RunW P n ops l s' K) ⟨⟩) ((∀ d, o.dst = some d → d < n) ∧ RunW P n ops l (skipS s o.dst) K) ⟨⟩ ⟨⟩ := by
  conv => lhs; unfold RunW
  cases h : wantPV ops s o with
  | none => rfl
  | some b =>
    cases b
    · simp only [condX_false]
    · simp only [condX_true, OpW_eq]

theorem condX_mono {o : Option Bool} {A B A' B' : Prop} {wA : Wit A} {wB : Wit B} {wA' : Wit A'} {wB' : Wit B'} (h : condX o A B wA wB) (hA : A → A') (hB : B → B') : condX o A' B' wA' wB' := by
  cases o with
  | none => exact h
  | some b => exact ⟨fun e => hA (h.1 e), fun e => hB (h.2 e)⟩

theorem runW_mono {ops : Array Oper} : ∀ {l : List Oper} {s : StL} {K K' : StL → Prop}, RunW P n ops l s K → (∀ s, K s → K' s) → RunW P n ops l s K'
  | [], s, K, K', h, hK => hK _ h
  | o :: l, s, K, K', h, hK => by
    rw [RunW_cons] at h ⊢
    exact condX_mono h (fun h => opX_mono h fun s' h' => runW_mono h' hK) (fun h => ⟨h.1, runW_mono h.2 hK⟩)

/-- The value of an operation that a draw may move. -/
def valX (o : Option PV) (o2 : Option (Bool × Res)) (d : Nat) (K : PV → Option Res → Prop) (wK : Wit K) : Prop :=
  match o with
  | some q => K q none
  | none => match o2 with
    | some (b, r) => K (if b then .ptr d 0 else .osl d) (some r)
    | none => False
@[simp] theorem valX_some (q : PV) (o2 : Option (Bool × Res)) (d : Nat) (K : PV → Option Res → Prop) (wK : Wit K) : valX (some q) o2 d K wK = K q none := rfl
@[simp] theorem valX_blk (r : Res) (d : Nat) (K : PV → Option Res → Prop) (wK : Wit K) : valX none (some (true, r)) d K wK = K (.ptr d 0) (some r) := rfl
@[simp] theorem valX_row (r : Res) (d : Nat) (K : PV → Option Res → Prop) (wK : Wit K) : valX none (some (false, r)) d K wK = K (.osl d) (some r) := rfl
theorem ValW_eq (s : StL) (d : Nat) (op : Op) (K : PV → Option Res → Prop) : ValW P s d op K = valX (valOp P s op) (newVal P s op) d K ⟨⟩ := by
  unfold ValW valX
  cases valOp P s op with
  | none => cases newVal P s op <;> rfl
  | some q => rfl

/-- A call that a draw may move, waiting for a contract. -/
def CallGE (P : Program) (d : Nat) (f : FuncId) (b : Bool) (tls : List TL) (K : PV → Option Res → Prop) (wK : Wit K) : Prop :=
  ∃ r Mr, PCall P f tls r Mr ∧ (b = true → r.noRo = true ∧ Mr.all (fun p => p.2.noRo) = true) ∧ match Mr with
    | [] => r.nm false 0 = true ∧ K (r.ren d) none
    | [(0, res)] => (r.nm true 0 = true ∧ res.nm true 0 = true) ∧ K (r.ren d) (some (res.ren d))
    | _ => False
theorem CallGE.by {d : Nat} {f : FuncId} {b : Bool} {tls : List TL} {K : PV → Option Res → Prop} {wK : Wit K} {r : PV} (h : PCall P f tls r [])
    (h2 : (b = true → r.noRo = true) ∧ r.nm false 0 = true ∧ K (r.ren d) none) : CallGE P d f b tls K wK := ⟨r, [], h, fun hb => ⟨h2.1 hb, rfl⟩, h2.2⟩
theorem CallGE.by1 {d : Nat} {f : FuncId} {b : Bool} {tls : List TL} {K : PV → Option Res → Prop} {wK : Wit K} {r : PV} {res : Res} (h : PCall P f tls r [(0, res)])
    (h2 : (b = true → r.noRo = true ∧ res.noRo = true) ∧ (r.nm true 0 = true ∧ res.nm true 0 = true) ∧ K (r.ren d) (some (res.ren d))) : CallGE P d f b tls K wK :=
  ⟨r, _, h, fun hb => ⟨(h2.1 hb).1, by simpa only [List.all_cons, List.all_nil, Bool.and_true] using (h2.1 hb).2⟩, h2.2⟩
def callEX (P : Program) (d : Nat) (f : FuncId) (o : Option (Bool × List TL)) (K : PV → Option Res → Prop) (wK : Wit K) : Prop :=
  match o with
  | some (b, tls) => CallGE P d f b tls K ⟨⟩
  | none => False
@[simp] theorem callEX_some (d : Nat) (f : FuncId) (b : Bool) (tls : List TL) (K : PV → Option Res → Prop) (wK : Wit K) : callEX P d f (some (b, tls)) K wK = CallGE P d f b tls K ⟨⟩ := rfl
@[simp] theorem callEX_none (d : Nat) (f : FuncId) (K : PV → Option Res → Prop) (wK : Wit K) : callEX P d f none K wK = False := rfl
theorem CallE_eq (s : StL) (d : Nat) (f : FuncId) (pvs : List PV) (K : PV → Option Res → Prop) : CallE P s d f pvs K = callEX P d f (optL (lendPV 5 s) pvs) K ⟨⟩ := by
  unfold CallE callEX
  cases optL (lendPV 5 s) pvs with
  | none => rfl
  | some p => rfl
def calleeEX (P : Program) (s : StL) (d : Nat) (c : Call) (o : Option (FuncId × List PV)) (K : PV → Option Res → Prop) (wK : Wit K) : Prop :=
  match o with
  | some (f, pvs) => callEX P d f (optL (lendPV 5 s) pvs) K ⟨⟩
  | none => valX (valOp P s (.call c)) (newVal P s (.call c)) d K ⟨⟩
@[simp] theorem calleeEX_some (s : StL) (d : Nat) (c : Call) (f : FuncId) (pvs : List PV) (K : PV → Option Res → Prop) (wK : Wit K) : calleeEX P s d c (some (f, pvs)) K wK = callEX P d f (optL (lendPV 5 s) pvs) K ⟨⟩ := rfl
@[simp] theorem calleeEX_none (s : StL) (d : Nat) (c : Call) (K : PV → Option Res → Prop) (wK : Wit K) : calleeEX P s d c none K wK = valX (valOp P s (.call c)) (newVal P s (.call c)) d K ⟨⟩ := rfl
def effX (P : Program) (s : StL) (d : Nat) (op : Op) (K : PV → Option Res → Prop) (wK : Wit K) : Prop :=
  match op with
  | .call c => calleeEX P s d c (callee s c) K ⟨⟩
  | op => valX (valOp P s op) (newVal P s op) d K ⟨⟩
theorem EffW_eq (ops : Array Oper) (o : Oper) (d : Nat) (s : StL) (K : PV → Option Res → Prop) : EffW P ops o d s K = condX (wantPV ops s o) (effX P s d o.op K ⟨⟩) (K skipPV none) ⟨⟩ ⟨⟩ := by
  have key : (match o.op with
    | .call c => match callee s c with
      | some (f, pvs) => CallE P s d f pvs K
      | none => ValW P s d (.call c) K
    | op => ValW P s d op K) = effX P s d o.op K ⟨⟩ := by
    cases o.op with
    | call c =>
      show (match callee s c with
        | some (f, pvs) => CallE P s d f pvs K
        | none => ValW P s d (.call c) K) = calleeEX P s d c (callee s c) K ⟨⟩
      unfold calleeEX
      cases callee s c with
      | none => exact ValW_eq _ _ _ _
      | some p => exact CallE_eq _ _ _ _ _
    | _ => exact ValW_eq _ _ _ _
  unfold EffW
  cases h : wantPV ops s o with
  | none => rfl
  | some b =>
    cases b
    · simp only [condX_false]
    · simp only [condX_true]
      exact key
/-- One operation more. -/
def drawX0 (P : Program) (n : Nat) (ops : Array Oper) (m : Nat) (As : List Nat) (i : Nat) (o : Oper) (l : List Oper) (s : StL) (K : StL → Prop) (b : Bool) : Prop :=
  match b with
  | true => match o.dst with
    | none => False
    | some d => d < n ∧ condX (wantPV ops s o) (effX P s d o.op (fun q res => (res.isSome = true → As.contains i = true ∧ s.free d = true) ∧ DrawW P n ops m As (i + 1) l (app1 d q res s) K) ⟨⟩)
        (DrawW P n ops m As (i + 1) l (app1 d skipPV none s) K) ⟨⟩ ⟨⟩
  | false => RunW P n ops (o :: l) s K
theorem DrawW_cons (ops : Array Oper) (m : Nat) (As : List Nat) (i : Nat) (o : Oper) (l : List Oper) (s : StL) (K : StL → Prop) : DrawW P n ops m As i (o :: l) s K = drawX0 P n ops m As i o l s K (decide (i < m)) := by
  conv => lhs; unfold DrawW
  by_cases h : i < m
  · rw [if_pos h, decide_eq_true h]
    unfold drawX0
    cases o.dst with
    | none => rfl
    | some d =>
      simp only [EffW_eq]
      cases wantPV ops s o with
      | none => rfl
      | some b => cases b <;> simp only [condX_true, condX_false, Option.isSome_none, Bool.false_eq_true, false_implies, true_and]
  · rw [if_neg h, decide_eq_false h]
    rfl

theorem effX_mono {s : StL} {d : Nat} {op : Op} {K K' : PV → Option Res → Prop} {w : Wit K} {w' : Wit K'} (h : effX P s d op K w) (hK : ∀ q r, K q r → K' q r) : effX P s d op K' w' := by
  have hv : ∀ (op : Op), valX (valOp P s op) (newVal P s op) d K ⟨⟩ → valX (valOp P s op) (newVal P s op) d K' ⟨⟩ := by
    intro op h
    generalize valOp P s op = o at h
    generalize newVal P s op = o2 at h
    cases o with
    | some q => exact hK _ _ h
    | none => cases o2 with
      | none => exact h
      | some p => exact hK _ _ h
  by_cases hc : ∃ c, op = .call c
  · obtain ⟨c, rfl⟩ := hc
    have h' : calleeEX P s d c (callee s c) K ⟨⟩ := h
    show calleeEX P s d c (callee s c) K' ⟨⟩
    cases hc : callee s c with
    | none => rw [hc] at h'; exact hv _ h'
    | some p =>
      rw [hc] at h'
      obtain ⟨f, pvs⟩ := p
      have h2 : callEX P d f (optL (lendPV 5 s) pvs) K ⟨⟩ := h'
      show callEX P d f (optL (lendPV 5 s) pvs) K' ⟨⟩
      generalize optL (lendPV 5 s) pvs = o at h2
      cases o with
      | none => exact h2
      | some p =>
        obtain ⟨b, tls⟩ := p
        obtain ⟨r, Mr, h1, h3, h4⟩ := h2
        refine ⟨r, Mr, h1, h3, ?_⟩
        split at h4
        · exact ⟨h4.1, hK _ _ h4.2⟩
        · exact ⟨h4.1, hK _ _ h4.2⟩
        · exact h4.elim
  · have e : ∀ K (w : Wit K), effX P s d op K w = valX (valOp P s op) (newVal P s op) d K ⟨⟩ := by
      intro K w
      cases op <;> first
        | rfl
        | exact absurd ⟨_, rfl⟩ hc
    rw [e] at h ⊢
    exact hv op h

theorem drawW_mono {ops : Array Oper} {m : Nat} {As : List Nat} : ∀ {l : List Oper} {i : Nat} {s : StL} {K K' : StL → Prop}, DrawW P n ops m As i l s K → (∀ s, K s → K' s) → DrawW P n ops m As i l s K'
  | [], i, s, K, K', h, hK => hK _ h
  | o :: l, i, s, K, K', h, hK => by
    rw [DrawW_cons] at h ⊢
    cases hb : decide (i < m) with
    | false => rw [hb] at h; exact runW_mono (h : RunW P n ops (o :: l) s K) hK
    | true =>
      rw [hb] at h
      unfold drawX0 at h ⊢
      cases hd : o.dst with
      | none => rw [hd] at h; exact h
      | some d =>
        rw [hd] at h
        exact ⟨h.1, condX_mono h.2 (fun h => effX_mono h fun q r h => ⟨h.1, drawW_mono h.2 hK⟩) (fun h => drawW_mono h hK)⟩

/-- The rest of a region. -/
def RunG (P : Program) (n : Nat) (ops : Array Oper) (l : List Oper) (s : StL) (K : StL → Prop) (wo : Wit ops) (wK : Wit (l, K)) : Prop := RunW P n ops l s K
@[simp ↓] theorem RunG_nil (ops : Array Oper) (s : StL) (K : StL → Prop) (wo : Wit ops) (wK : Wit (([] : List Oper), K)) : RunG P n ops [] s K wo wK = K s := rfl
@[simp ↓] theorem RunG_cons (ops : Array Oper) (o : Oper) (l : List Oper) (s : StL) (K : StL → Prop) (wo : Wit ops) (wK : Wit (o :: l, K)) :
    RunG P n ops (o :: l) s K wo wK = condX (wantPV ops s o) (opX P n o.dst s o.op (fun s' => RunG P n ops l s' K ⟨⟩ ⟨⟩) ⟨⟩) ((∀ d, o.dst = some d → d < n) ∧ RunG P n ops l (skipS s o.dst) K ⟨⟩ ⟨⟩) ⟨⟩ ⟨⟩ := RunW_cons ops o l s K
/-- The rest of a region that draws. -/
def DrawL (P : Program) (n : Nat) (ops : Array Oper) (m : Nat) (As : List Nat) (i : Nat) (l : List Oper) (s : StL) (K : StL → Prop) (wo : Wit (ops, As)) (wK : Wit (l, K)) : Prop := DrawW P n ops m As i l s K
@[simp ↓] theorem DrawL_nil (ops : Array Oper) (m : Nat) (As : List Nat) (i : Nat) (s : StL) (K : StL → Prop) (wo : Wit (ops, As)) (wK : Wit (([] : List Oper), K)) : DrawL P n ops m As i [] s K wo wK = K s := rfl
/-- One operation more. -/
def drawX (P : Program) (n : Nat) (ops : Array Oper) (m : Nat) (As : List Nat) (i : Nat) (o : Oper) (l : List Oper) (s : StL) (K : StL → Prop) (wo : Wit (ops, As)) (wK : Wit (o, l, K)) (b : Bool) : Prop :=
  match b with
  | true => drawY P n ops m As i o l s K wo wK o.dst
  | false => RunG P n ops (o :: l) s K ⟨⟩ ⟨⟩
where drawY (P : Program) (n : Nat) (ops : Array Oper) (m : Nat) (As : List Nat) (i : Nat) (o : Oper) (l : List Oper) (s : StL) (K : StL → Prop) (wo : Wit (ops, As)) (wK : Wit (o, l, K)) (dst : Option Nat) : Prop :=
  match dst with
  | none => False
  | some d => d < n ∧ condX (wantPV ops s o) (effX P s d o.op (fun q res => (res.isSome = true → As.contains i = true ∧ s.free d = true) ∧ DrawL P n ops m As (i + 1) l (app1 d q res s) K ⟨⟩ ⟨⟩) ⟨⟩)
        (DrawL P n ops m As (i + 1) l (app1 d skipPV none s) K ⟨⟩ ⟨⟩) ⟨⟩ ⟨⟩
@[simp ↓] theorem DrawL_cons (ops : Array Oper) (m : Nat) (As : List Nat) (i : Nat) (o : Oper) (l : List Oper) (s : StL) (K : StL → Prop) (wo : Wit (ops, As)) (wK : Wit (o :: l, K)) :
    DrawL P n ops m As i (o :: l) s K wo wK = drawX P n ops m As i o l s K ⟨⟩ ⟨⟩ (decide (i < m)) := by
  show DrawW P n ops m As i (o :: l) s K = _
  rw [DrawW_cons]
  cases decide (i < m) with
  | false => rfl
  | true =>
    show drawX0 P n ops m As i o l s K true = drawX.drawY P n ops m As i o l s K ⟨⟩ ⟨⟩ o.dst
    unfold drawX0 drawX.drawY
    cases o.dst <;> rfl
@[simp] theorem drawX_true (ops : Array Oper) (m : Nat) (As : List Nat) (i : Nat) (o : Oper) (l : List Oper) (s : StL) (K : StL → Prop) (wo : Wit (ops, As)) (wK : Wit (o, l, K)) : drawX P n ops m As i o l s K wo wK true = drawX.drawY P n ops m As i o l s K wo wK o.dst := rfl
@[simp] theorem drawX_false (ops : Array Oper) (m : Nat) (As : List Nat) (i : Nat) (o : Oper) (l : List Oper) (s : StL) (K : StL → Prop) (wo : Wit (ops, As)) (wK : Wit (o, l, K)) : drawX P n ops m As i o l s K wo wK false = RunG P n ops (o :: l) s K ⟨⟩ ⟨⟩ := rfl
@[simp] theorem drawY_some (ops : Array Oper) (m : Nat) (As : List Nat) (i : Nat) (o : Oper) (l : List Oper) (s : StL) (K : StL → Prop) (wo : Wit (ops, As)) (wK : Wit (o, l, K)) (d : Nat) : drawX.drawY P n ops m As i o l s K wo wK (some d) =
   (d < n ∧ condX (wantPV ops s o) (effX P s d o.op (fun q res => (res.isSome = true → As.contains i = true ∧ s.free d = true) ∧ DrawL P n ops m As (i + 1) l (app1 d q res s) K ⟨⟩ ⟨⟩) ⟨⟩)
        (DrawL P n ops m As (i + 1) l (app1 d skipPV none s) K ⟨⟩ ⟨⟩) ⟨⟩ ⟨⟩) := rfl

/-- What comes behind. -/
def SeqK (f : StL → (Exit → StL → Prop) → Prop) (Q : Exit → StL → Prop) : Exit → StL → Prop
  | .normal, s => f s Q
  | e, s => Q e s
def BlkK (id : Nat) (Q : Exit → StL → Prop) : Exit → StL → Prop
  | .exit id', s => if id' = id then Q .normal s else Q (.exit id') s
  | e, s => Q e s
def NormK (Q : Exit → StL → Prop) : StL → Prop := Q .normal

def LoopG (P : Program) (n : Nat) (c : Code) (s : StL) (Q : Exit → StL → Prop) (wc : Wit c) (wQ : Wit Q) : Prop := CodeW P n (.loop c) s Q
def DrawG (P : Program) (n : Nat) (id : Nat) (ops : Array Oper) (s : StL) (Q : Exit → StL → Prop) (wo : Wit ops) (wQ : Wit Q) : Prop := CodeW P n (.region id ops true) s Q
def wpk (P : Program) (n : Nat) : Code → StL → (Exit → StL → Prop) → Prop
  | .skip, s, Q => Q .normal s
  | .ret, s, Q => Q .ret s
  | .exit id, s, Q => Q (.exit id) s
  | .seq x y, s, Q => wpk P n x s (SeqK (fun s' Q' => wpk P n y s' Q') Q)
  | .block id c, s, Q => wpk P n c s (BlkK id Q)
  | .cond c x y, s, Q => condX (boolPV (ev s c)) (wpk P n x s Q) (wpk P n y s Q) ⟨⟩ ⟨⟩
  | .region id ops false, s, Q => RunW P n ops ops.toList s (NormK Q)
  | .region id ops true, s, Q => DrawG P n id ops s Q ⟨⟩ ⟨⟩
  | .loop c, s, Q => LoopG P n c s Q ⟨⟩ ⟨⟩
  | c, s, Q => CodeW P n c s Q
section
variable (s : StL) (Q : Exit → StL → Prop)
@[simp ↓] theorem SeqK_normal (f : StL → (Exit → StL → Prop) → Prop) : SeqK f Q .normal s = f s Q := rfl
@[simp ↓] theorem SeqK_exit (f : StL → (Exit → StL → Prop) → Prop) (i : Nat) : SeqK f Q (.exit i) s = Q (.exit i) s := rfl
@[simp ↓] theorem SeqK_ret (f : StL → (Exit → StL → Prop) → Prop) : SeqK f Q .ret s = Q .ret s := rfl
@[simp ↓] theorem BlkK_normal (id : Nat) : BlkK id Q .normal s = Q .normal s := rfl
@[simp ↓] theorem BlkK_ret (id : Nat) : BlkK id Q .ret s = Q .ret s := rfl
@[simp ↓] theorem BlkK_same (id : Nat) : BlkK id Q (.exit id) s = Q .normal s := by simp only [BlkK, if_pos]
@[simp ↓] theorem BlkK_ne (id i : Nat) (h : (i == id) = false) : BlkK id Q (.exit i) s = Q (.exit i) s := by simp only [beq_eq_false_iff_ne, ne_eq] at h; simp only [BlkK, if_neg h]
@[simp ↓] theorem NormK_s : NormK Q s = Q .normal s := rfl
@[simp ↓] theorem wpk_skip : wpk P n .skip s Q = Q .normal s := rfl
@[simp ↓] theorem wpk_ret : wpk P n .ret s Q = Q .ret s := rfl
@[simp ↓] theorem wpk_exit (id : Nat) : wpk P n (.exit id) s Q = Q (.exit id) s := rfl
@[simp ↓] theorem wpk_seq (x y : Code) : wpk P n (.seq x y) s Q = wpk P n x s (SeqK (fun s' Q' => wpk P n y s' Q') Q) := rfl
@[simp ↓] theorem wpk_block (id : Nat) (c : Code) : wpk P n (.block id c) s Q = wpk P n c s (BlkK id Q) := rfl
@[simp ↓] theorem wpk_cond (c : Operand) (x y : Code) : wpk P n (.cond c x y) s Q = condX (boolPV (ev s c)) (wpk P n x s Q) (wpk P n y s Q) ⟨⟩ ⟨⟩ := rfl
@[simp ↓] theorem wpk_region (id : Nat) (l : List Oper) : wpk P n (.region id l.toArray false) s Q = RunG P n l.toArray l s (NormK Q) ⟨⟩ ⟨⟩ := rfl
end

theorem wpk_sound : ∀ (c : Code) (s : StL) (Q : Exit → StL → Prop), wpk P n c s Q → CodeW P n c s Q
  | .skip, s, Q, h => codeW_skip h
  | .ret, s, Q, h => codeW_ret h
  | .exit id, s, Q, h => codeW_exit h
  | .seq x y, s, Q, h => codeW_seq fun K hK => (wpk_sound x s _ h).mono fun e s' hq => by
      cases e with
      | normal => exact hK s' (wpk_sound y s' Q hq)
      | exit id => exact hq
      | goto l => exact hq
      | ret => exact hq
      | panic ch => exact hq
      | outgrown => exact hq
  | .block id c, s, Q, h => codeW_block ((wpk_sound c s _ h).mono fun e s' hq => by
      cases e with
      | normal => exact hq
      | exit id => exact hq
      | goto l => exact hq
      | ret => exact hq
      | panic ch => exact hq
      | outgrown => exact hq)
  | .cond c x y, s, Q, h => by
      have h' : condX (boolPV (ev s c)) (wpk P n x s Q) (wpk P n y s Q) ⟨⟩ ⟨⟩ := h
      generalize he : ev s c = pv at h'
      unfold boolPV at h'
      split at h'
      · exact codeW_cond he (fun hb => wpk_sound x s Q (h'.1 hb)) (fun hb => wpk_sound y s Q (h'.2 hb))
      · exact h'.elim
  | .region id ops false, s, Q, h => codeW_region fun K hK => by
      have h' : RunW P n ops ops.toList s (NormK Q) := h
      exact runW_mono h' hK
  | .region id ops true, s, Q, h => h
  | .loop b, s, Q, h => h
  | .rangeFunc _ _ _ _, s, Q, h => h
  | .scope _, s, Q, h => h
  | .label _, s, Q, h => h
  | .goto _, s, Q, h => h
  | .refuse _, s, Q, h => h

@[simp ↓] theorem wpk_loop (s : StL) (Q : Exit → StL → Prop) (b : Code) : wpk P n (.loop b) s Q = LoopG P n b s Q ⟨⟩ ⟨⟩ := rfl

/-- What a round leaves. -/
def RoundP {ι : Type} (st : ι → StL) (J : ι → Prop) (μ : ι → Nat) (x : ι) (Q : Exit → StL → Prop) (w : Wit (st, J, μ, Q)) (e : Exit) (s' : StL) : Prop := LoopP st J μ x Q e s'

/-- A loop, by what its rounds keep. -/
theorem wk_loop {ι : Type} {s : StL} {body : Code} {Q : Exit → StL → Prop} {wc : Wit body} {wQ : Wit Q} (st : ι → StL) (J : ι → Prop) (μ : ι → Nat) (x0 : ι) (hs0 : (st x0).le s) (h0 : J x0)
    (round : ∀ x, J x → wpk P n body (st x) (RoundP st J μ x Q ⟨⟩)) : LoopG P n body s Q wc wQ :=
  cw_loop st J μ x0 h0 hs0 fun x hx => wpk_sound _ _ _ (round x hx)

section
variable {ι : Type} (st : ι → StL) (J : ι → Prop) (μ : ι → Nat) (x : ι) (Q : Exit → StL → Prop) (w : Wit (st, J, μ, Q)) (s : StL)
@[simp ↓] theorem RoundP_exit (i : Nat) : RoundP st J μ x Q w (.exit i) s = Q (.exit i) s := rfl
@[simp ↓] theorem RoundP_ret : RoundP st J μ x Q w .ret s = Q .ret s := rfl
theorem LoopP_next {st : ι → StL} {J : ι → Prop} {μ : ι → Nat} {x : ι} {Q : Exit → StL → Prop} {w : Wit (st, J, μ, Q)} {s : StL} (y : ι) (hl : (st y).le s) (hj : J y) (hm : μ y < μ x) : RoundP st J μ x Q w .normal s := ⟨y, hj, hl, hm⟩
end

/-- What a function leaves. -/
def EndP (P : Program) (fn : Func) (r : PV) (Mr : List (Nat × Res)) : Exit → StL → Prop := fun e s => (e = .normal ∨ e = .ret) ∧ RetP P fn s r Mr
@[simp ↓] theorem EndP_normal (fn : Func) (s : StL) (r : PV) (Mr : List (Nat × Res)) : EndP P fn r Mr .normal s = RetP P fn s r Mr := by simp only [EndP, true_or, true_and]
@[simp ↓] theorem EndP_ret (fn : Func) (s : StL) (r : PV) (Mr : List (Nat × Res)) : EndP P fn r Mr .ret s = RetP P fn s r Mr := by simp only [EndP, or_true, true_and]

theorem pcall_wp {f : FuncId} {fn : Func} {c : Code} {args : List TL} {r : PV} {Mr : List (Nat × Res)} (N : Nat) (hf : P.funcs[f]? = some fn) (hb : fn.body = some c) (hn : (fn.name == "runtime.NumGoroutine") = false)
    (hN : args.length + (fn.ntmps - args.length) = N) (h : wpk P N c ⟨initT 0 args, []⟩ (EndP P fn r Mr)) : PCall P f args r Mr :=
  pcall_of hf hb hn (hN ▸ wpk_sound _ _ _ h)

/-- A region that draws. -/
theorem wk_draw {id : Nat} (m : Nat) (As : List Nat) {l : List Oper} {s : StL} {Q : Exit → StL → Prop} {wo : Wit l.toArray} {wQ : Wit Q} (hm : P.follows .mixedOrders = true) (hok : drawOk l.toArray m As (depsOf l.toArray) = true)
    (h : DrawL P n l.toArray m As 0 l s (NormK Q) ⟨⟩ ⟨⟩) : DrawG P n id l.toArray s Q wo wQ := cw_draw hm hok fun K hK => drawW_mono h hK
@[simp ↓] theorem wpk_drawn (s : StL) (Q : Exit → StL → Prop) (id : Nat) (ops : Array Oper) : wpk P n (.region id ops true) s Q = DrawG P n id ops s Q ⟨⟩ ⟨⟩ := rfl

end

theorem retP_c {P : Program} {fn : Func} {s : StL} {k : Kind} {y : TL} (h : (match resPV P s fn.results.toList with
    | some pv => frzT 6 s pv
    | none => none) = some (k, y)) : RetP P fn s (.t k y) [] := by
  split at h
  · exact retP_frz (by assumption) h
  · cases h

attribute [simp ↓] CallW_eq
attribute [simp] clearPV cmpB aggCmp tget tset sameK isKeyK isKeyB intsL vsL vsP keyV keyT lookPV lowK jn updPV entPV rngPV opX effX frzZ frzQ restM Res.frzQ retE backM StL.kills Sg.to Sg.bk Sg.ok PV.mp PV.mpL Res.mp
end Go.PS
/- PS22: names for what the machine does with the bits of a number. -/
namespace Go.PS
open Go Go.RowKit
def shrI (a : Int) (n : Nat) : Int := a.fdiv (2 ^ min n IntKind.i64.bits)
def shlI (a : Int) (n : Nat) : Int := IntKind.i64.wrap (a * 2 ^ min n IntKind.i64.bits)
def andI (a b : Int) : Int := bits .and .i64 a b
def orI (a b : Int) : Int := bits .or .i64 a b
def xorI (a b : Int) : Int := bits .xor .i64 a b
@[simp] theorem shrI_fold (a : Int) (n : Nat) : a.fdiv (2 ^ min n IntKind.i64.bits) = shrI a n := rfl
@[simp] theorem shlI_fold (a : Int) (n : Nat) : IntKind.i64.wrap (a * 2 ^ min n IntKind.i64.bits) = shlI a n := rfl
@[simp] theorem shlI_fold1 (n : Nat) : IntKind.i64.wrap (2 ^ min n IntKind.i64.bits) = shlI 1 n := by simp only [shlI, Int.one_mul]
@[simp] theorem andI_fold (a b : Int) : bits .and .i64 a b = andI a b := rfl
@[simp] theorem orI_fold (a b : Int) : bits .or .i64 a b = orI a b := rfl
@[simp] theorem xorI_fold (a b : Int) : bits .xor .i64 a b = xorI a b := rfl
section
variable {P : Program} {n : Nat} {s : StL}
theorem lg_adoptT {c : Code} {Q : Exit → StL → Prop} {wc : Wit c} {wQ : Wit Q} (t d ty sz : Nat) {k : Kind} (ht : getT s.T t = .t k (.v (.slice none 0 0))) (hf : s.free d = true)
    (h : LoopG P n c ⟨(t, .osl d) :: s.T, (d, .row ty sz .fz []) :: s.M⟩ Q wc wQ) : LoopG P n c s Q wc wQ := cw_adoptT t d ty sz ht hf h
end

@[simp] theorem optL_map (f : PV → Option (Bool × TL)) (k : Kind) (caps : List TL) (h : ∀ x, f (.t k x) = some (false, x)) : optL f (caps.map (PV.t k)) = some (false, caps) := by
  induction caps with
  | nil => rfl
  | cons c caps ih => simp only [List.map_cons, optL, h, ih, Bool.or_self]
end Go.PS
/- PS23: slices that may be nil; contracts with weaker words. -/
namespace Go.PS
open Go Go.RowKit
section
variable {P : Program}

/-- A tree is what a function leaves, or a word for less. -/
def RetT (P : Program) (fn : Func) (s : StL) (y : TL) : Prop :=
  ∃ pv k x, resPV P s fn.results.toList = some pv ∧ frzT 6 s pv = some (k, x) ∧ ∀ w S v, TRep w S x v → TRep w S y v
def EndT (P : Program) (fn : Func) (y : TL) : Exit → StL → Prop := fun e s => (e = .normal ∨ e = .ret) ∧ RetT P fn s y
@[simp ↓] theorem EndT_normal (fn : Func) (s : StL) (y : TL) : EndT P fn y .normal s = RetT P fn s y := by simp only [EndT, true_or, true_and]
@[simp ↓] theorem EndT_ret (fn : Func) (s : StL) (y : TL) : EndT P fn y .ret s = RetT P fn s y := by simp only [EndT, or_true, true_and]
end
end Go.PS
/- PS24: everything that is our own, given away for good: it becomes a tree. -/
namespace Go.PS
open Go Go.RowKit

def frzP (s : StL) (p : PV) : PV := match frzT 6 s p with
  | some (k, x) => .t k x
  | none => .undef
def frzA (s : StL) : StL := ⟨s.T.map fun p => (p.1, frzP s p.2), []⟩

section
variable {P : Program} {w0 : Base} {F0 : Nat → Prop} {n : Nat} {s : StL} {a : Act} {w : World}

/-- A region in which all is given away before some operations. -/
def RunZ (P : Program) (n : Nat) (ops : Array Oper) (zs : List Nat) : Nat → List Oper → StL → (StL → Prop) → Prop
  | _, [], s, K => K s
  | i, o :: l, s, K => match wantPV ops (if zs.contains i then frzA s else s) o with
    | some true => OpW P n o.dst (if zs.contains i then frzA s else s) o.op fun s' => RunZ P n ops zs (i + 1) l s' K
    | some false => (∀ d, o.dst = some d → d < n) ∧ RunZ P n ops zs (i + 1) l (skipS (if zs.contains i then frzA s else s) o.dst) K
    | none => False

end

section
variable {P : Program} {n : Nat}
def RunZG (P : Program) (n : Nat) (ops : Array Oper) (zs : List Nat) (i : Nat) (l : List Oper) (s : StL) (K : StL → Prop) (wo : Wit (ops, zs)) (wK : Wit (l, K)) : Prop := RunZ P n ops zs i l s K
@[simp ↓] theorem RunZG_nil (ops : Array Oper) (zs : List Nat) (i : Nat) (s : StL) (K : StL → Prop) (wo : Wit (ops, zs)) (wK : Wit (([] : List Oper), K)) : RunZG P n ops zs i [] s K wo wK = K s := rfl
@[simp ↓] theorem RunZG_cons (ops : Array Oper) (zs : List Nat) (i : Nat) (o : Oper) (l : List Oper) (s : StL) (K : StL → Prop) (wo : Wit (ops, zs)) (wK : Wit (o :: l, K)) :
    RunZG P n ops zs i (o :: l) s K wo wK = optS (some (if zs.contains i then frzA s else s)) (fun s1 => condX (wantPV ops s1 o) (opX P n o.dst s1 o.op (fun s' => RunZG P n ops zs (i + 1) l s' K ⟨⟩ ⟨⟩) ⟨⟩) ((∀ d, o.dst = some d → d < n) ∧ RunZG P n ops zs (i + 1) l (skipS s1 o.dst) K ⟨⟩ ⟨⟩) ⟨⟩ ⟨⟩) ⟨⟩ := by
  show RunZ P n ops zs i (o :: l) s K = _
  conv => lhs; unfold RunZ
  simp only [optS_some]
  generalize (if zs.contains i then frzA s else s) = s1
  cases h : wantPV ops s1 o with
  | none => rfl
  | some b =>
    cases b
    · simp only [condX_false]; rfl
    · simp only [condX_true, OpW_eq]; rfl

end
attribute [simp] frzA frzP
end Go.PS
/- PS26: the bits of small numbers. -/
namespace Go.PS
open Go Go.RowKit
end Go.PS
/- PS27: functions that are handed memory by name. -/
namespace Go.PS
open Go Go.RowKit
section
variable {P : Program}

def initE : Nat → List PV → List (Nat × PV)
  | _, [] => []
  | i, x :: l => (i, x) :: initE (i + 1) l
theorem initE_get : ∀ (args : List PV) (i t : Nat), getT (initE i args) t = if i ≤ t then match args[t - i]? with | some x => x | none => .undef else .undef
  | [], i, t => by simp [initE, getT]
  | x :: l, i, t => by
    simp only [initE, getT]
    by_cases e : i = t
    · subst e; simp
    · rw [if_neg e, initE_get l (i + 1) t]
      by_cases h1 : i + 1 ≤ t
      · rw [if_pos h1, if_pos (by omega)]
        have : t - i = (t - (i + 1)) + 1 := by omega
        rw [this, List.getElem?_cons_succ]
      · rw [if_neg h1, if_neg (by omega)]

/-- What a body leaves of what it was handed. -/
def RetE (P : Program) (fn : Func) (s : StL) (r : PV) (M' : List (Nat × Res)) : Prop :=
  resPV P s fn.results.toList = some r ∧ ∀ q ∈ M', getM M' q.1 = getM s.M q.1 ∨ getM M' q.1 = .dead
def EndE (P : Program) (fn : Func) (r : PV) (M' : List (Nat × Res)) : Exit → StL → Prop := fun e s => (e = .normal ∨ e = .ret) ∧ RetE P fn s r M'
@[simp ↓] theorem EndE_normal (fn : Func) (s : StL) (r : PV) (M' : List (Nat × Res)) : EndE P fn r M' .normal s = RetE P fn s r M' := by simp only [EndE, true_or, true_and]
@[simp ↓] theorem EndE_ret (fn : Func) (s : StL) (r : PV) (M' : List (Nat × Res)) : EndE P fn r M' .ret s = RetE P fn s r M' := by simp only [EndE, or_true, true_and]
theorem retE_c {fn : Func} {s : StL} {r : PV} {M' : List (Nat × Res)} (h : resPV P s fn.results.toList = some r) (h' : ∀ q ∈ M', getM M' q.1 = getM s.M q.1 ∨ getM M' q.1 = .dead) : RetE P fn s r M' := ⟨h, h'⟩

/-- The same; what is left is told by a word. -/
def EndEP (P : Program) (fn : Func) (Post : PV → List (Nat × Res) → Prop) : Exit → StL → Prop := fun e s => (e = .normal ∨ e = .ret) ∧ ∃ r M', Post r M' ∧ RetE P fn s r M'
/-- What a body leaves. -/
def RetEP (P : Program) (fn : Func) (Post : PV → List (Nat × Res) → Prop) (s : StL) : Prop := ∃ r M', Post r M' ∧ RetE P fn s r M'
@[simp ↓] theorem EndEP_normal (fn : Func) (s : StL) (Post : PV → List (Nat × Res) → Prop) : EndEP P fn Post .normal s = RetEP P fn Post s := by simp only [EndEP, RetEP, true_or, true_and]
@[simp ↓] theorem EndEP_ret (fn : Func) (s : StL) (Post : PV → List (Nat × Res) → Prop) : EndEP P fn Post .ret s = RetEP P fn Post s := by simp only [EndEP, RetEP, or_true, true_and]
theorem ecallP_of {f : FuncId} {fn : Func} {c : Code} {args : List PV} {M : List (Nat × Res)} {Post : PV → List (Nat × Res) → Prop} (hf : P.funcs[f]? = some fn) (hb : fn.body = some c) (hn : (fn.name == "runtime.NumGoroutine") = false)
    (h : CodeW P (args.length + (fn.ntmps - args.length)) c ⟨initE 0 args, M⟩ (EndEP P fn Post)) : ECallP P f args M Post := by
  refine ⟨⟨fn, c, hf, hb, hn⟩, fun w S φ fp vals hH => ?_⟩
  have hS : ∀ k g, (k = Kind.ro ∧ S g) → Stb (Base.on w S φ fp) w fp k g := fun k g hg => ⟨(hH.stays g hg.2).1, (hH.stays g hg.2).2, .inr hg⟩
  have hsim : Sim (Base.on w S φ fp) (fun g => ∃ m, fp m g) (args.length + (fn.ntmps - args.length)) ⟨initE 0 args, M⟩ { tmps := vals ++ Array.replicate (fn.ntmps - vals.size) Go.undef, defers := [] } w := by
    refine ⟨φ, fp, ⟨fun m => (hH.res m).keep (fun _ _ => rfl) (fun _ _ _ => rfl) hS, hH.disj, fun m g hg => ⟨hH.lt m g hg, .inl ⟨m, hg⟩⟩, fun t => ?_, Evo.refl _ _, by simp [hH.size], ⟨rfl, fun _ h => h, hH.gl⟩, fun _ _ => rfl⟩⟩
    show PVRep _ _ _ (getT (initE 0 args) t) _
    rw [initE_get, if_pos (Nat.zero_le _), Nat.sub_zero]
    split
    · rename_i x hx
      have hlt : t < vals.size := by rw [hH.size]; exact (List.getElem?_eq_some_iff.1 hx).1
      have e1 : (vals ++ Array.replicate (fn.ntmps - vals.size) Go.undef).getD t Go.undef = vals.getD t Go.undef := by
        simp [Array.getD_eq_getD_getElem?, Array.getElem?_append_left hlt]
      show PVRep _ _ _ _ ((vals ++ Array.replicate (fn.ntmps - vals.size) Go.undef).getD t Go.undef)
      rw [e1]
      exact (hH.args t x hx).mono (fun _ _ _ => rfl) hS
    · exact .undef _
  refine calls_of_wp hf hb (wp_mono (h _ _ _ w hsim) ?_)
  intro e a' w' ⟨s', ⟨he, r, M', hPost, hres, hM⟩, hs⟩
  have hle : StL.le ⟨s'.T, M'⟩ s' := ⟨fun t => .inl rfl, fun m => by
    by_cases hm : ∃ q ∈ M', q.1 = m
    · obtain ⟨q, hq, rfl⟩ := hm
      exact hM q hq
    · exact .inr (getM_none fun q hq e => hm ⟨q, hq, e⟩)⟩
  obtain ⟨v0, hv0⟩ : ∃ v, (results fn a'.tmps).run P w' = .ok v w' := by
    obtain ⟨φ', fp', hx⟩ := hs
    obtain ⟨v, hv, _⟩ := resPV_run hx hres
    exact ⟨v, hv⟩
  obtain ⟨φ', fp', hx⟩ := hs
  obtain ⟨v, hv, hpr⟩ := resPV_run hx hres
  have key : ∃ fp'', SimX (Base.on w S φ fp) (fun g => ∃ m, fp m g) (args.length + (fn.ntmps - args.length)) ⟨s'.T, M'⟩ a' w' φ' fp'' ∧ ∀ k g, Stb (Base.on w S φ fp) w' fp' k g → Stb (Base.on w S φ fp) w' fp'' k g := by
    refine ⟨fun m g => fp' m g ∧ getM M' m ≠ .dead, ?_, fun k g hg => ⟨hg.1, fun m hm => hg.2.1 m hm.1, hg.2.2⟩⟩
    have hS : ∀ k g, Stb (Base.on w S φ fp) w' fp' k g → Stb (Base.on w S φ fp) w' (fun m g => fp' m g ∧ getM M' m ≠ .dead) k g := fun k g hg => ⟨hg.1, fun m hm => hg.2.1 m hm.1, hg.2.2⟩
    refine ⟨fun m => ?_, fun m m' g h1 h2 => hx.disj m m' g h1.1 h2.1, fun m g hm => hx.old m g hm.1, fun t => (hx.tmp t).mono (fun k g _ => rfl) hS, hx.evo, hx.size, hx.dfr, hx.fix⟩
    show ResRep _ _ _ (getM M' m) _ _
    by_cases hd : getM M' m = .dead
    · rw [hd]
      intro g hg
      exact hg.2 rfl
    · have e := (hle.2 m).resolve_right hd
      have e' : getM M' m = getM s'.M m := e
      have hF : (fun g => fp' m g ∧ getM M' m ≠ .dead) = fp' m := by
        funext g; simp [hd]
      rw [hF, e']
      exact (hx.res m).keep (fun g _ => rfl) (fun k g _ => rfl) hS
  obtain ⟨fp'', hx', hSS⟩ := key
  have fin : Back w S φ fp r M' w' v φ' fp'' := by
    refine ⟨hx'.evo, fun m => hx'.res m, hx'.disj, fun m g hm => ?_, hx'.fix, hpr.mono (fun _ _ _ => rfl) hSS⟩
    exact hx'.old m g hm
  rcases he with rfl | rfl
  · exact ⟨hx.dfr.1, v, hv, v, φ', fp'', r, M', hPost, rfl, fin⟩
  · exact ⟨hx.dfr.1, v, hv, v, φ', fp'', r, M', hPost, rfl, fin⟩

theorem ecall_of {f : FuncId} {fn : Func} {c : Code} {args : List PV} {M : List (Nat × Res)} {r : PV} {M' : List (Nat × Res)} (hf : P.funcs[f]? = some fn) (hb : fn.body = some c) (hn : (fn.name == "runtime.NumGoroutine") = false)
    (h : CodeW P (args.length + (fn.ntmps - args.length)) c ⟨initE 0 args, M⟩ (EndE P fn r M')) : ECall P f args M r M' :=
  ecallP_of hf hb hn (h.mono fun e s he => ⟨he.1, r, M', ⟨rfl, rfl⟩, he.2⟩)
theorem ecall_wp {f : FuncId} {fn : Func} {c : Code} {args : List PV} {M : List (Nat × Res)} {r : PV} {M' : List (Nat × Res)} (hf : P.funcs[f]? = some fn) (hb : fn.body = some c) (hn : (fn.name == "runtime.NumGoroutine") = false)
    (h : wpk P (args.length + (fn.ntmps - args.length)) c ⟨initE 0 args, M⟩ (EndE P fn r M')) : ECall P f args M r M' := ecall_of hf hb hn (wpk_sound _ _ _ h)
end
attribute [simp] initE
end Go.PS
/- PS28: a new row of plain values, given away as new; bounds of a row in hand. -/
namespace Go.PS
open Go Go.RowKit
section
variable {P : Program}
theorem retP_own {fn : Func} {s : StL} {pv r : PV} {Mr : List (Nat × Res)} (m : Nat) (h1 : resPV P s fn.results.toList = some pv) (h2 : pv.nm true m = true) (h3 : (getM s.M m).nm true m = true) (h4 : pv.ren 0 = r) (h5 : [(0, (getM s.M m).ren 0)] = Mr) : RetP P fn s r Mr :=
  ⟨pv, h1, .inr ⟨m, h2, h3, h4.symm, h5.symm⟩⟩

/-- A row of plain values that a function returns reads nothing old. -/
theorem pcall_fzrow {f : FuncId} {args : List TL} {ty sz : Nat} {k : Kind} {xs : List (List TL)} (h : PCall P f args (.osl 0) [(0, .row ty sz k xs)]) (hflat : ∀ e ∈ xs, ∀ x ∈ e, ∃ v, x = TL.v v) : PCall P f args (.t .fz (.sl .any sz xs)) [] := by
  refine ⟨h.1, fun w S vals hG hS hs hr => Calls.mono (h.2 w S vals hG hS hs hr) ?_⟩
  rintro e w' ⟨v, φ, fp, rfl, hevo, hres, hdisj, hold, hv⟩
  refine ⟨v, fun _ => Go.undef, fun _ _ => False, rfl, hevo, fun m g hg => hg, fun _ _ _ h1 _ => h1.elim, fun _ _ h1 => h1.elim, .t ?_⟩
  have h0 := hres 0
  simp only [getM, if_true] at h0
  obtain ⟨cells, hown, hbd, hlen, hrep⟩ := h0
  generalize hu : v = u at hv
  cases hv with
  | @osl _ len cap ao hφ =>
  rw [hφ] at hown
  have hnew : ∀ g, fp 0 g → Stb (Base.of w S) w' (fun _ _ => False) .fz g := fun g hg => ⟨(hold 0 g hg).2, fun _ h => h, .inl (.inl (hold 0 g hg).1)⟩
  have hvv : ∀ (i j : Nat) (e : List TL) (x : TL), xs[i]? = some e → e[j]? = some x → ∃ v, x = TL.v v := fun i j e x he hx => hflat e (List.mem_of_getElem? he) x (List.mem_of_getElem? hx)
  rcases hown with ⟨hown, hF⟩ | ⟨rfl, ⟨ao', hv⟩, _⟩
  · rcases hown.2 with ⟨hv, hz⟩ | ⟨g, cap', cur, hv, _, hh, hle, _, _⟩
    · cases hv
      have hx : xs = [] := List.eq_nil_of_length_eq_zero hz
      subst hx
      exact .sl (cap := 0) (fun _ _ => Go.undef) (Nat.le_refl _) (by simp) (by simp) (by simp) (by simp) (.inl rfl) (by simp) (fun i j e x he => by simp at he)
    · cases hv
      refine .sl (fun i j => cells.getD (i * sz + j) Go.undef) hle (by simp) (by simp) (by simp) hbd (.inr ⟨g, 0, rfl, hnew g ((hF g).2 rfl), fun i j hi hj => ?_⟩) hlen fun i j e x he hx => ?_
      · have hidx : i * sz + j < cells.length := by
          rw [hown.1]
          have : (i + 1) * sz ≤ xs.length * sz := Nat.mul_le_mul_right _ hi
          rw [Nat.add_mul] at this
          omega
        have h1 := hown.cells (g := g) rfl (i * sz + j) _ (List.getElem?_eq_getElem hidx)
        rw [addr_add, Nat.zero_add] at h1
        rw [Nat.zero_add, h1, List.getD_eq_getElem?_getD, List.getElem?_eq_getElem hidx]
        rfl
      · obtain ⟨y, rfl⟩ := hvv i j e x he hx
        have := (hrep i j e _ he hx).v_inv
        rw [this]
        exact .v _
  · cases hv
    exact .sl (cap := 0) (fun _ _ => Go.undef) (Nat.le_refl _) (by simp) (by simp) (by simp) (by simp) (.inl rfl) (by simp) (fun i j e x he => by simp at he)

end
end Go.PS
/- PS29: a region that draws its order, walked in every order. -/
namespace Go.PS
open Go Go.RowKit

mutual
/-- The orders in which a region can run, as a tree. -/
inductive OT where
  | nd (l : OTL)
inductive OTL where
  | nil
  | cons (i : Nat) (t : OT) (l : OTL)
end
def OTL.idx : OTL → List Nat
  | .nil => []
  | .cons i _ l => i :: l.idx
mutual
def OT.ok (ops : Array Oper) : OT → Nat → Array Bool → Bool
  | .nd l, fuel, listed => (Region.ready .any ops listed == l.idx) && OTL.ok ops l fuel listed
def OTL.ok (ops : Array Oper) : OTL → Nat → Array Bool → Bool
  | .nil, _, _ => true
  | .cons i t l, 0, listed => false
  | .cons i t l, fuel + 1, listed => (ops[i]?).isSome && OT.ok ops t fuel (listed.setIfInBounds i true) && OTL.ok ops l (fuel + 1) listed
end
section
variable {P : Program} {n : Nat} {ops : Array Oper}
/-- One operation of a region, if it is there. -/
def opO (P : Program) (n : Nat) (ops : Array Oper) (s : StL) (K : StL → Prop) (o : Option Oper) (wo : Wit ops) (wK : Wit K) : Prop :=
  match o with
  | some o => condX (wantPV ops s o) (opX P n o.dst s o.op K ⟨⟩) ((∀ d, o.dst = some d → d < n) ∧ K (skipS s o.dst)) ⟨⟩ ⟨⟩
  | none => False
@[simp] theorem opO_some (s : StL) (K : StL → Prop) (o : Oper) (wo : Wit ops) (wK : Wit K) : opO P n ops s K (some o) wo wK = condX (wantPV ops s o) (opX P n o.dst s o.op K ⟨⟩) ((∀ d, o.dst = some d → d < n) ∧ K (skipS s o.dst)) ⟨⟩ ⟨⟩ := rfl
mutual
def OT.run (P : Program) (n : Nat) (ops : Array Oper) : OT → StL → (StL → Prop) → Prop
  | .nd l, s, K => OTL.run P n ops l s K (K s)
def OTL.run (P : Program) (n : Nat) (ops : Array Oper) : OTL → StL → (StL → Prop) → Prop → Prop
  | .nil, s, K, e => e
  | .cons i t l, s, K, e => opO P n ops s (fun s' => OT.run P n ops t s' K) ops[i]? ⟨⟩ ⟨⟩ ∧ OTL.run P n ops l s K True
end
/-- The same, for the walk. -/
def OTG (P : Program) (n : Nat) (ops : Array Oper) (t : OT) (s : StL) (K : StL → Prop) (wo : Wit (ops, t)) (wK : Wit K) : Prop := OT.run P n ops t s K
def OTLG (P : Program) (n : Nat) (ops : Array Oper) (l : OTL) (s : StL) (K : StL → Prop) (wo : Wit (ops, l)) (wK : Wit K) : Prop := OTL.run P n ops l s K True
@[simp ↓] theorem OTG_nil (s : StL) (K : StL → Prop) (wo : Wit (ops, OT.nd .nil)) (wK : Wit K) : OTG P n ops (.nd .nil) s K wo wK = K s := by simp only [OTG, OT.run, OTL.run]
@[simp ↓] theorem OTG_cons (i : Nat) (t : OT) (l : OTL) (s : StL) (K : StL → Prop) (wo : Wit (ops, OT.nd (.cons i t l))) (wK : Wit K) :
    OTG P n ops (.nd (.cons i t l)) s K wo wK = (opO P n ops s (fun s' => OTG P n ops t s' K ⟨⟩ ⟨⟩) ops[i]? ⟨⟩ ⟨⟩ ∧ OTLG P n ops l s K ⟨⟩ ⟨⟩) := by simp only [OTG, OTLG, OT.run, OTL.run]
@[simp ↓] theorem OTLG_nil (s : StL) (K : StL → Prop) (wo : Wit (ops, OTL.nil)) (wK : Wit K) : OTLG P n ops .nil s K wo wK = True := by simp only [OTLG, OTL.run]
@[simp ↓] theorem OTLG_cons (i : Nat) (t : OT) (l : OTL) (s : StL) (K : StL → Prop) (wo : Wit (ops, OTL.cons i t l)) (wK : Wit K) :
    OTLG P n ops (.cons i t l) s K wo wK = (opO P n ops s (fun s' => OTG P n ops t s' K ⟨⟩ ⟨⟩) ops[i]? ⟨⟩ ⟨⟩ ∧ OTLG P n ops l s K ⟨⟩ ⟨⟩) := by simp only [OTG, OTLG, OTL.run]

variable {w0 : Base} {F0 : Nat → Prop}
theorem opO_wp {s : StL} {a : Act} {w : World} {i : Nat} {K : StL → Prop} {wo : Wit ops} {wK : Wit K} {Q : Exit → Act → World → Prop} {next : Act → World → Prop} (h : Sim w0 F0 n s a w) (hq : opO P n ops s K ops[i]? wo wK)
    (hn : ∀ s' a' w', K s' → Sim w0 F0 n s' a' w' → next a' w') : wpOp P ops Q i next a w := by
  unfold wpOp
  cases ho : ops[i]? with
  | none => rw [ho] at hq; exact hq.elim
  | some o =>
    rw [ho] at hq
    simp only
    have hq' : condX (wantPV ops s o) (opX P n o.dst s o.op K ⟨⟩) ((∀ d, o.dst = some d → d < n) ∧ K (skipS s o.dst)) ⟨⟩ ⟨⟩ := hq
    cases hw : wantPV ops s o with
    | none => rw [hw] at hq'; exact hq'.elim
    | some b =>
      rw [hw] at hq'
      rw [want_rep h hw]
      cases b with
      | true =>
        rw [if_pos rfl]
        refine .inl (opW_wp h (by rw [OpW_eq]; exact hq'.1 rfl) hn)
      | false =>
        rw [if_neg (by simp)]
        have h2 := hq'.2 rfl
        exact hn _ _ _ h2.2 (skip_sim h o.dst h2.1)

end
end Go.PS
/- PS30: a region that draws its order: first by a plan, then in every order. -/
namespace Go.PS
open Go Go.RowKit

/-- What is known of a region that passes. -/
structure PassesB (ops : Array Oper) (m : Nat) (As : List Nat) (D : List Nat) : Prop where
  le : m ≤ ops.size
  back : ∀ i o e, ops[i]? = some o → e ∈ o.after.toList → Region.binds .any e = true → e.on < i
  fix : ∀ i o k, ops[i]? = some o → dep D k i = true → ∃ e ∈ o.after.toList, Region.binds .any e = true ∧ (e.on = k ∨ dep D k e.on = true)
  look : ∀ i o t j, i < m → ops[i]? = some o → t ∈ o.looksAt ops → j < m → dstAt ops j = t → j = i ∨ (j < i ∧ dep D j i = true) ∨ (i < j ∧ dep D i j = true)
  uniq : ∀ i j, i < m → j < m → dstAt ops i = dstAt ops j → i = j
  born : ∀ i j, i < m → j < m → As.contains i = true → i < j → dep D i j = true
  seq : ∀ i j, m ≤ i → i < ops.size → j < m → dep D j i = true

section
variable {P : Program} {n : Nat} {ops : Array Oper} {w0 : Base} {F0 : Nat → Prop}

end
end Go.PS
