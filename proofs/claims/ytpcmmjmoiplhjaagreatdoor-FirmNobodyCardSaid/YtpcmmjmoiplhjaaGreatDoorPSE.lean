import Derived.Test.YtpcmmjmoiplhjaaGreatDoorPSD
/- PSE: a region that draws its order, walked operation by operation: what else has run is left open. -/
set_option linter.unusedVariables false
set_option linter.unusedSimpArgs false
namespace Go.PS
open Go Go.RowKit
section
variable {P : Program} {n : Nat}
/-- A value, if something has run. -/
def cnd : Bool → PV → PV
  | true, x => x
  | false, _ => .undef
@[simp ↓] theorem cnd_true (x : PV) : cnd true x = x := rfl
@[simp ↓] theorem cnd_false (x : PV) : cnd false x = .undef := rfl
@[simp] theorem cnd_men (b : Bool) (x : PV) (m : Nat) : PV.men m (cnd b x) = (b && PV.men m x) := by cases b <;> rfl
def cndR : Bool → Res → Res
  | true, x => x
  | false, _ => .dead
@[simp ↓] theorem cndR_true (x : Res) : cndR true x = x := rfl
@[simp ↓] theorem cndR_false (x : Res) : cndR false x = .dead := rfl
/-- What must have run ahead of an operation. -/
def dirD (ops : Array Oper) (k : Nat) : List Nat := match ops[k]? with
  | some o => (o.after.toList.filter fun e => Region.binds .any e).map (·.on)
  | none => []
/-- For all lists of a pattern. -/
def allB : List (Option Bool) → (List Bool → Prop) → Prop
  | [], f => f []
  | some v :: p, f => allB p fun l => f (v :: l)
  | none :: p, f => ∀ x : Bool, allB p fun l => f (x :: l)
@[simp ↓] theorem allB_nil (f : List Bool → Prop) : allB [] f = f [] := rfl
@[simp ↓] theorem allB_some (v : Bool) (p : List (Option Bool)) (f : List Bool → Prop) : allB (some v :: p) f = allB p (fun l => f (v :: l)) := rfl
@[simp ↓] theorem allB_none (p : List (Option Bool)) (f : List Bool → Prop) : allB (none :: p) f = ∀ x : Bool, allB p (fun l => f (x :: l)) := rfl
def fits : List (Option Bool) → List Bool → Prop
  | [], [] => True
  | some v :: p, x :: l => x = v ∧ fits p l
  | none :: p, x :: l => fits p l
  | _, _ => False
theorem allB_use : ∀ {p : List (Option Bool)} {f : List Bool → Prop} {l : List Bool}, allB p f → fits p l → f l
  | [], f, [], h, _ => h
  | some v :: p, f, x :: l, h, hf => by
    obtain ⟨rfl, hf⟩ := hf
    exact allB_use (p := p) (f := fun l => f (x :: l)) h hf
  | none :: p, f, x :: l, h, hf => allB_use (p := p) (f := fun l => f (x :: l)) (h x) hf
  | [], f, _ :: _, _, hf => hf.elim
  | some _ :: _, f, [], _, hf => hf.elim
  | none :: _, f, [], _, hf => hf.elim
theorem fits_of : ∀ {p : List (Option Bool)} {l : List Bool}, p.length = l.length → (∀ (j : Nat) (v : Bool), p[j]? = some (some v) → l[j]? = some v) → fits p l
  | [], [], _, _ => trivial
  | [], _ :: _, h, _ => by simp at h
  | _ :: _, [], h, _ => by simp at h
  | some v :: p, x :: l, h, hv => by
    have h0 := hv 0 v rfl
    simp at h0
    exact ⟨h0, fits_of (by simpa using h) fun j v hj => by simpa using hv (j + 1) v (by simpa using hj)⟩
  | none :: p, x :: l, h, hv => fits_of (p := p) (by simpa using h) fun j v hj => by simpa using hv (j + 1) v (by simpa using hj)
/-- D: what has run when an operation has; pats: what is known when it is about to. -/
def patOk (n : Nat) (D : List (List Nat)) (i : Nat) (p : List (Option Bool)) : Bool :=
  p.length == n && (List.range n).all fun j => match p[j]? with
    | some (some true) => (D.getD i []).contains j
    | some (some false) => j == i || (D.getD j []).contains i
    | _ => true
def topoOk (ops : Array Oper) : List Nat → List Nat → Bool
  | _, [] => true
  | seen, k :: l => (decide (k < ops.size) && (dirD ops k).all fun j => seen.contains j) && topoOk ops (k :: seen) l
def dagSOk (ops : Array Oper) (D : List (List Nat)) (topo : List Nat) (pats : List (List (Option Bool))) : Bool :=
  (D.length == ops.size) && ((pats.length == ops.size) && (topoOk ops [] topo && (((List.range ops.size).all fun k => topo.contains k) &&
  (((List.range ops.size).all fun k => ((dirD ops k).all fun j => decide (j < ops.size)) && (D.getD k []).all fun j => (dirD ops k).contains j || (dirD ops k).any fun m => (D.getD m []).contains j) &&
  (List.range ops.size).all fun i => patOk ops.size D i (pats.getD i [])))))
def dagSP (P : Program) (n : Nat) (ops : Array Oper) (S : List Bool → StL) : Nat → List (List (Option Bool)) → Prop
  | _, [] => True
  | i, p :: ps => allB p (fun bs => opO P n ops (S bs) (fun q => (S (bs.set i true)).le q) ops[i]? ⟨⟩ ⟨⟩) ∧ dagSP P n ops S (i + 1) ps
def dagSG (P : Program) (n : Nat) (ops : Array Oper) (S : List Bool → StL) (i : Nat) (L : List (List (Option Bool))) (wo : Wit (ops, S)) : Prop := dagSP P n ops S i L
@[simp ↓] theorem dagSG_nil (ops : Array Oper) (S : List Bool → StL) (i : Nat) (wo : Wit (ops, S)) : dagSG P n ops S i [] wo = True := rfl
@[simp ↓] theorem dagSG_cons (ops : Array Oper) (S : List Bool → StL) (i : Nat) (p : List (Option Bool)) (L : List (List (Option Bool))) (wo : Wit (ops, S)) :
    dagSG P n ops S i (p :: L) wo = (allB p (fun bs => opO P n ops (S bs) (fun q => (S (bs.set i true)).le q) ops[i]? ⟨⟩ ⟨⟩) ∧ dagSG P n ops S (i + 1) L wo) := rfl
theorem dagSP_get {ops : Array Oper} {S : List Bool → StL} : ∀ {L : List (List (Option Bool))} {i : Nat}, dagSP P n ops S i L → ∀ k p, L[k]? = some p → allB p (fun bs => opO P n ops (S bs) (fun q => (S (bs.set (i + k) true)).le q) ops[i + k]? ⟨⟩ ⟨⟩)
  | [], i, h, k, p, hk => by simp at hk
  | q :: L, i, h, 0, p, hk => by
    simp at hk
    subst hk
    exact h.1
  | q :: L, i, h, k + 1, p, hk => by
    have := dagSP_get h.2 k p (by simpa using hk)
    rwa [show i + 1 + k = i + (k + 1) by omega] at this
theorem ready_mem {ops : Array Oper} {l : List Bool} (hl : l.length = ops.size) {i : Nat} : i ∈ Region.ready .any ops l.toArray ↔ i < ops.size ∧ l[i]? = some false ∧ ∀ j ∈ dirD ops i, l.getD j false = true := by
  unfold Region.ready
  rw [List.mem_filter, List.mem_range]
  constructor
  · rintro ⟨h1, h2⟩
    rw [Bool.and_eq_true] at h2
    have hil : i < l.length := by omega
    refine ⟨h1, ?_, fun j hj => ?_⟩
    · have := h2.1
      simp [Array.getD_eq_getD_getElem?, hil] at this
      simp [hil, this]
    · unfold dirD at hj
      have h3 := h2.2
      rw [Array.getElem?_eq_getElem h1] at h3 hj
      simp only [List.mem_map, List.mem_filter] at hj
      obtain ⟨e, ⟨he, hb⟩, rfl⟩ := hj
      simp only [Option.map_some, Option.getD_some, Array.all_eq_true_iff_forall_mem] at h3
      have := h3 e (by simpa using he)
      rw [hb] at this
      simpa [Array.getD_eq_getD_getElem?, List.getD_eq_getElem?_getD] using this
  · rintro ⟨h1, h2, h3⟩
    have hil : i < l.length := by omega
    refine ⟨h1, ?_⟩
    rw [Bool.and_eq_true]
    constructor
    · rw [List.getElem?_eq_getElem hil, Option.some.injEq] at h2
      simp [Array.getD_eq_getD_getElem?, hil, h2]
    · rw [Array.getElem?_eq_getElem h1]
      simp only [Option.map_some, Option.getD_some, Array.all_eq_true_iff_forall_mem]
      intro e he
      cases hb : Region.binds .any e with
      | false => rfl
      | true =>
        have := h3 e.on (by
          unfold dirD
          rw [Array.getElem?_eq_getElem h1]
          exact List.mem_map.2 ⟨e, List.mem_filter.2 ⟨by simpa using he, hb⟩, rfl⟩)
        simpa [Array.getD_eq_getD_getElem?, List.getD_eq_getElem?_getD] using this
def InvD (D : List (List Nat)) (l : List Bool) : Prop := ∀ k, l.getD k false = true → ∀ j ∈ D.getD k [], l.getD j false = true
theorem topo_ready {ops : Array Oper} {l : List Bool} (hl : l.length = ops.size) : ∀ {topo seen : List Nat}, topoOk ops seen topo = true → (∀ k ∈ seen, l.getD k false = true) → (∃ k ∈ topo, l[k]? = some false) → ∃ i, i ∈ Region.ready .any ops l.toArray
  | [], seen, _, _, h => by obtain ⟨k, hk, _⟩ := h; cases hk
  | k :: topo, seen, ht, hs, h => by
    rw [topoOk, Bool.and_eq_true, Bool.and_eq_true] at ht
    cases hk : l.getD k false with
    | true =>
      refine topo_ready hl ht.2 (fun j hj => ?_) ?_
      · rcases List.mem_cons.1 hj with rfl | hj
        · exact hk
        · exact hs j hj
      · obtain ⟨j, hj, hf⟩ := h
        rcases List.mem_cons.1 hj with rfl | hj
        · simp [List.getD_eq_getElem?_getD, hf] at hk
        · exact ⟨j, hj, hf⟩
    | false =>
      have hkl : k < l.length := by
        have := of_decide_eq_true ht.1.1
        omega
      refine ⟨k, (ready_mem hl).2 ⟨by omega, ?_, fun j hj => hs j ?_⟩⟩
      · simp [List.getD_eq_getElem?_getD, hkl] at hk
        simp [hkl, hk]
      · have := List.all_eq_true.1 ht.1.2 j hj
        simpa using this
variable {w0 : Base} {F0 : Nat → Prop}
theorem dagS_sound {ops : Array Oper} {S : List Bool → StL} {D : List (List Nat)} {topo : List Nat} {pats : List (List (Option Bool))} {Q : Exit → Act → World → Prop} (hok : dagSOk ops D topo pats = true) (h : dagSP P n ops S 0 pats)
    (hQ : ∀ a w, Sim w0 F0 n (S (List.replicate ops.size true)) a w → Q .normal a w) :
    ∀ (fuel : Nat) (l : List Bool), l.length = ops.size → InvD D l → l.count false = fuel → ∀ (a : Act) (w : World), Sim w0 F0 n (S l) a w → wpAny P .any ops Q fuel l.toArray a w := by
  simp only [dagSOk, Bool.and_eq_true, List.all_eq_true, List.mem_range, beq_iff_eq] at hok
  obtain ⟨o1, o2, o3, o4, o5, o6⟩ := hok
  intro fuel
  induction fuel with
  | zero =>
    intro l hl hI hc a w hs
    have ha := all_rep (count_zero hc)
    have hr : Region.ready .any ops l.toArray = [] := by
      rw [List.eq_nil_iff_forall_not_mem]
      intro i hi
      have h2 := ((ready_mem hl).1 hi).2.1
      have h3 := List.mem_of_getElem? h2
      have := List.count_pos_iff.2 h3
      omega
    refine ⟨hr, hQ a w ?_⟩
    rw [← hl, ← ha]
    exact hs
  | succ fuel ih =>
    intro l hl hI hc a w hs
    refine ⟨fun hr => ?_, fun i hi => ?_⟩
    · exfalso
      have hf : false ∈ l := List.count_pos_iff.1 (by omega)
      obtain ⟨k, hk, hkf⟩ := List.mem_iff_getElem.1 hf
      have hk2 : l[k]? = some false := by rw [List.getElem?_eq_getElem hk, hkf]
      obtain ⟨i, hi⟩ := topo_ready hl o3 (by simp) ⟨k, by simpa using o4 k (by omega), hk2⟩
      rw [hr] at hi
      cases hi
    · obtain ⟨r1, r2, r3⟩ := (ready_mem hl).1 hi
      have hDi : ∀ j ∈ D.getD i [], l.getD j false = true := fun j hj => by
        have := (o5 i r1).2 j hj
        rw [Bool.or_eq_true] at this
        rcases this with h' | h'
        · exact r3 j (by simpa using h')
        · obtain ⟨m, hm, hmj⟩ := List.any_eq_true.1 h'
          exact hI m (r3 m hm) j (by simpa using hmj)
      have hp : pats[i]? = some (pats.getD i []) := by
        have : i < pats.length := by omega
        simp [List.getD_eq_getElem?_getD, this]
      have hfit : fits (pats.getD i []) l := by
        have hpo := o6 i r1
        rw [patOk, Bool.and_eq_true, beq_iff_eq, List.all_eq_true] at hpo
        refine fits_of (by omega) fun j v hj => ?_
        have hjl : j < ops.size := by
          have := (List.getElem?_eq_some_iff.1 hj).1
          omega
        have := hpo.2 j (List.mem_range.2 hjl)
        rw [hj] at this
        have hjl' : j < l.length := by omega
        cases v with
        | true =>
          have h' := hDi j (by simpa using this)
          simp [List.getD_eq_getElem?_getD, hjl'] at h'
          simp [hjl', h']
        | false =>
          simp only [Bool.or_eq_true, beq_iff_eq] at this
          rcases this with h' | h'
          · subst h'
            exact r2
          · cases hv : l[j]? with
            | none => rw [List.getElem?_eq_none_iff] at hv; omega
            | some x =>
              cases x with
              | false => rfl
              | true =>
                have h2 := hI j (by simp [List.getD_eq_getElem?_getD, hv]) i (by simpa using h')
                simp [List.getD_eq_getElem?_getD, r2] at h2
      have hstep := allB_use (dagSP_get h i _ hp) hfit
      rw [Nat.zero_add] at hstep
      have hcs := count_set r2
      refine opO_wp hs hstep fun s' a' w' hle hs' => ?_
      have hs2 := hs'.weak hle
      have hil : i < l.length := by omega
      have := ih (l.set i true) (by simpa using hl) (fun k hk j hj => ?_) (by omega) a' w' hs2
      · simpa using this
      · have hset : ∀ q, (l.set i true).getD q false = if i = q then true else l.getD q false := fun q => by
          simp only [List.getD_eq_getElem?_getD, List.getElem?_set]
          split
          · rename_i e; subst e; simp [hil]
          · rfl
        rw [hset] at hk ⊢
        split
        · rfl
        · by_cases e : i = k
          · subst e
            exact hDi j hj
          · rw [if_neg e] at hk
            exact hI k hk j hj
theorem wk_dagS {id : Nat} (S : List Bool → StL) (D : List (List Nat)) (topo : List Nat) (pats : List (List (Option Bool))) {l : List Oper} {s : StL} {Q : Exit → StL → Prop} {wo : Wit l.toArray} {wQ : Wit Q} (hm : P.follows .mixedOrders = true)
    (hok : dagSOk l.toArray D topo pats = true) (h0 : (S (List.replicate l.length false)).le s) (h : dagSG P n l.toArray S 0 pats ⟨⟩) (hQ : Q .normal (S (List.replicate l.length true))) : DrawG P n id l.toArray s Q wo wQ := by
  intro w0 F0 a w hs
  refine wp_region_any hm ?_
  have hs' : Sim w0 F0 n s a { w with drawn := w.drawn + 1 } := by
    obtain ⟨φ, fp, hx⟩ := hs
    exact ⟨φ, fp, hx.same rfl rfl rfl rfl⟩
  have hsz : l.toArray.size = l.length := by simp
  have := dagS_sound (Q := fun e a w => ∃ s', Q e s' ∧ Sim w0 F0 n s' a w) hok h (fun a w hs => ⟨_, hQ, by rw [hsz] at hs; exact hs⟩) l.length (List.replicate l.length false) (by simp) (fun k hk j hj => by
    have : (List.replicate l.length false).getD k false = false := by
      rw [List.getD_eq_getElem?_getD]
      cases h : (List.replicate l.length false)[k]? with
      | none => rfl
      | some x => exact (List.mem_replicate.1 (List.mem_of_getElem? h)).2
    rw [this] at hk
    cases hk) (by simp) a _ (hs'.weak h0)
  rw [hsz]
  simpa using this
end
end Go.PS
