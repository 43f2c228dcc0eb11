import Derived.Test.YtmneioafbkknhaaPB36
import Derived.Test.YtmneioafbkknhaaPB24
/- PB37: the plain law of Narrow. -/
set_option linter.unusedVariables false
set_option linter.unusedSimpArgs false
set_option maxRecDepth 20000
namespace Go.Proofs.Ytmneioafbkknhaa
open Go Go.PS
attribute [-simp] List.map_take
/-- A value is left in a domain. -/
def dv (D : List Int) (v : Int) (a : Bool) : Bool := bt (D.getD v.toNat 0) a.toNat
def vAt (c : Cn) (i : Nat) : Int := c.vars.getD i 0
def agreesF (c : Cn) (r : Int) : Bool := (List.range c.vars.length).all fun i => (List.range c.vars.length).all fun j => !(vAt c i == vAt c j) || (bt r i == bt r j)
def supF (rows : List Int) (c : Cn) (D : List Int) (i : Nat) (a : Bool) : Bool := rows.any fun r => (bt r i == a) && agreesF c r && (List.range c.vars.length).all fun j => dv D (vAt c j) (bt r j)
def subD (E D : List Int) : Prop := ∀ v a, dv E v a = true → dv D v a = true
def closedC (rows : List Int) (c : Cn) (D : List Int) : Prop := ∀ i, i < c.vars.length → ∀ a, dv D (vAt c i) a = true → supF rows c D i a = true
def closedP (p : Pz) (D : List Int) : Prop := ∀ c ∈ p.cons, closedC (relOf p c).rows c D
def domP (p : Pz) (D : List Int) : Prop := D.length = p.vars.toNat ∧ ∀ x ∈ D, InN 2 x
def NarrowLaw (p : Pz) (D : List Int) : Prop := domP p D ∧ closedP p D ∧ ∀ E, domP p E → closedP p E → subD E D
theorem supF_iff {rows : List Int} {c : Cn} {D : List Int} {i : Nat} {a : Bool} : supF rows c D i a = true ↔ ∃ r ∈ rows, bt r i = a ∧ agreesF c r = true ∧ ∀ j, j < c.vars.length → dv D (vAt c j) (bt r j) = true := by
  simp only [supF, List.any_eq_true, Bool.and_eq_true, beq_iff_eq, List.all_eq_true, List.mem_range]
  constructor
  · rintro ⟨r, hr, ⟨h1, h2⟩, h3⟩
    exact ⟨r, hr, h1, h2, h3⟩
  · rintro ⟨r, hr, h1, h2, h3⟩
    exact ⟨r, hr, ⟨h1, h2⟩, h3⟩
theorem supF_mono {rows : List Int} {c : Cn} {E D : List Int} (h : subD E D) {i : Nat} {a : Bool} (hs : supF rows c E i a = true) : supF rows c D i a = true := by
  rw [supF_iff] at hs ⊢
  obtain ⟨r, hr, h1, h2, h3⟩ := hs
  exact ⟨r, hr, h1, h2, fun j hj => h _ _ (h3 j hj)⟩
theorem getD_mem {α : Type} {D : List α} {i : Nat} {d : α} (h : i < D.length) : D.getD i d = D[i] := by simp [h]
theorem dom_eq {n : Nat} {D D' : List Int} (h1 : D.length = n) (h1' : D'.length = n) (h2 : ∀ x ∈ D, InN 2 x) (h2' : ∀ x ∈ D', InN 2 x) (h : ∀ v a, dv D v a = dv D' v a) : D = D' := by
  apply List.ext_getElem (by omega)
  intro i hi hi'
  refine inN_eq (h2 _ (List.getElem_mem hi)) (h2' _ (List.getElem_mem hi')) fun k hk => ?_
  have e : ∀ a : Bool, bt D[i] a.toNat = bt D'[i] a.toNat := fun a => by
    have := h (i : Int) a
    rwa [dv, dv, Int.toNat_natCast, getD_mem hi, getD_mem hi'] at this
  match k, hk with
  | 0, _ => exact e false
  | 1, _ => exact e true
theorem narrow_unique {p : Pz} {D D' : List Int} (h : NarrowLaw p D) (h' : NarrowLaw p D') : D = D' := by
  refine dom_eq h.1.1 h'.1.1 h.1.2 h'.1.2 fun v a => ?_
  rw [Bool.eq_iff_iff]
  exact ⟨h'.2.2 D h.1 h.2.1 v a, h.2.2 D' h'.1 h'.2.1 v a⟩
/-- Numbers of two bits. -/
def num2 (b0 b1 : Bool) : Int := (((if b0 then 1 else 0) + (if b1 then 2 else 0) : Nat) : Int)
theorem num2_in (b0 b1 : Bool) : InN 2 (num2 b0 b1) := ⟨_, rfl, by cases b0 <;> cases b1 <;> decide⟩
theorem num2_bit (b0 b1 a : Bool) : bt (num2 b0 b1) a.toNat = if a then b1 else b0 := by cases b0 <;> cases b1 <;> cases a <;> decide
theorem narrow_ex (p : Pz) (hg : goodP p = true) : ∃ D, NarrowLaw p D := by
  have hv := hg
  simp only [goodP, Bool.and_eq_true, decide_eq_true_eq] at hv
  obtain ⟨⟨⟨⟨⟨g1, g2⟩, g3⟩, g4⟩, g5⟩, g6⟩ := hv
  let P : Nat → Bool → Prop := fun v a => ∃ E, domP p E ∧ closedP p E ∧ dv E v a = true
  let Q : Nat → Bool → Bool := fun v a => @decide (P v a) (Classical.propDecidable _)
  have hQ : ∀ v a, Q v a = true ↔ P v a := fun v a => by simp [Q]
  let D := (List.range p.vars.toNat).map fun v => num2 (Q v false) (Q v true)
  have hDl : D.length = p.vars.toNat := by simp [D]
  have hD : ∀ v : Int, 0 ≤ v → v < p.vars → ∀ a, dv D v a = Q v.toNat a := by
    intro v h0 h1 a
    have hlt : v.toNat < D.length := by omega
    rw [dv, getD_mem hlt]
    simp only [D, List.getElem_map, List.getElem_range, num2_bit]
    cases a <;> rfl
  have hdom : domP p D := ⟨hDl, fun x hx => by
    obtain ⟨v, _, rfl⟩ := List.mem_map.1 hx
    exact num2_in _ _⟩
  have hout : ∀ E, domP p E → ∀ v : Int, ¬ (0 ≤ v ∧ v < p.vars) → ∀ a, dv E v a = true → 0 ≤ v → False := by
    intro E hE v hv a ha h0
    have : ¬ v.toNat < E.length := by rw [hE.1]; omega
    rw [dv, List.getD_eq_getElem?_getD, List.getElem?_eq_none (by omega)] at ha
    simp [bt] at ha
  have hsub : ∀ E, domP p E → closedP p E → subD E D := by
    intro E hE hc v a ha
    by_cases hv : v.toNat < p.vars.toNat
    · have h1 : dv D v a = dv D (v.toNat : Int) a := by rw [dv, dv, Int.toNat_natCast]
      rw [h1, hD _ (by omega) (by omega), Int.toNat_natCast]
      refine (hQ _ _).2 ⟨E, hE, hc, ?_⟩
      rw [dv, Int.toNat_natCast]
      exact ha
    · rw [dv, List.getD_eq_getElem?_getD, List.getElem?_eq_none (by rw [hE.1]; omega)] at ha
      simp [bt] at ha
  refine ⟨D, hdom, fun c hc i hi a ha => ?_, hsub⟩
  have hgc := List.all_eq_true.1 g6 c hc
  simp only [goodC, Bool.and_eq_true, decide_eq_true_eq, List.all_eq_true, goodV] at hgc
  obtain ⟨⟨⟨c1, c2⟩, c3⟩, c4⟩ := hgc
  have hvi : vAt c i = c.vars[i] := getD_mem hi
  have hvb := c4 _ (List.getElem_mem hi)
  rw [hD _ (by rw [hvi]; omega) (by rw [hvi]; omega)] at ha
  obtain ⟨E, hE, hEc, hEa⟩ := (hQ _ _).1 ha
  have h3 : dv E (vAt c i) a = true := by
    rw [dv, Int.toNat_natCast] at hEa
    exact hEa
  exact supF_mono (hsub E hE hEc) (hEc c hc i hi a h3)
/-- How many values are left. -/
def sizeD (D : List Int) : Nat := (D.map fun x => (bt x 0).toNat + (bt x 1).toNat).sum
theorem sum_set_lt {f : Int → Nat} : ∀ (D : List Int) (i : Nat) (x : Int) (h : i < D.length), f x < f D[i] → ((D.set i x).map f).sum < (D.map f).sum
  | y :: D, 0, x, _, h => by
    simp only [List.set_cons_zero, List.map_cons, List.sum_cons]
    have : f x < f y := h
    omega
  | y :: D, i + 1, x, hi, h => by
    have := sum_set_lt D i x (by simpa using hi) (by simpa using h)
    simp only [List.set_cons_succ, List.map_cons, List.sum_cons]
    omega
theorem sizeD_set {D : List Int} {i : Nat} (hi : i < D.length) (h2 : ∀ x ∈ D, InN 2 x) {y : Int} (hy : InN 2 y) (hs : ∀ a : Bool, bt y a.toNat = true → bt D[i] a.toNat = true) (hne : y ≠ D[i]) : sizeD (D.set i y) < sizeD D := by
  refine sum_set_lt D i y hi ?_
  have h0 := hs false
  have h1 := hs true
  have : ¬ (∀ k < 2, bt y k = bt D[i] k) := fun h => hne (inN_eq hy (h2 _ (List.getElem_mem hi)) h)
  have e : (false.toNat = 0) ∧ (true.toNat = 1) := ⟨rfl, rfl⟩
  rw [e.1] at h0
  rw [e.2] at h1
  by_cases q0 : bt y 0 = bt D[i] 0
  · by_cases q1 : bt y 1 = bt D[i] 1
    · exact absurd (fun k hk => by
        match k, hk with
        | 0, _ => exact q0
        | 1, _ => exact q1) this
    · revert q0 q1 h0 h1
      cases bt y 0 <;> cases bt y 1 <;> cases bt D[i] 0 <;> cases bt D[i] 1 <;> simp
  · revert q0 h0 h1
    cases bt y 0 <;> cases bt y 1 <;> cases bt D[i] 0 <;> cases bt D[i] 1 <;> simp
theorem dv_set {D : List Int} {v : Int} (h0 : 0 ≤ v) (hv : v.toNat < D.length) (y u : Int) (hu : 0 ≤ u) (a : Bool) : dv (D.set v.toNat y) u a = if u = v then bt y a.toNat else dv D u a := by
  rw [dv, List.getD_eq_getElem?_getD]
  by_cases e : u = v
  · subst e
    rw [if_pos rfl, List.getElem?_set_self hv]
    rfl
  · rw [if_neg e, List.getElem?_set_ne (by omega), dv, List.getD_eq_getElem?_getD]
/-- A bit of a row, as the programs reckon it. -/
def rbI (r : Int) (j : Nat) : Int := andI (shrI r j) 1
theorem rbI_eq {r : Int} (hr : InN 3 r) {j : Nat} (hj : j ≤ 62) : rbI r j = if bt r j then 1 else 0 := by
  obtain ⟨k, rfl, hk⟩ := hr
  rw [rbI, and1 k (by omega) j (by omega)]
  rfl
theorem live_eq {D : List Int} (h2 : ∀ x ∈ D, InN 2 x) (v : Int) (a : Bool) : live D v (if a then 1 else 0) = dv D v a := by
  have hx : InN 2 (D.getD v.toNat 0) := by
    by_cases h : v.toNat < D.length
    · rw [getD_mem h]
      exact h2 _ (List.getElem_mem h)
    · rw [List.getD_eq_getElem?_getD, List.getElem?_eq_none (by omega)]
      exact ⟨0, rfl, by decide⟩
  rw [live, dv]
  obtain ⟨k, e, hk⟩ := hx
  rw [e]
  cases a with
  | true =>
    rw [and1 k (by omega) _ (by decide)]
    cases h : k.testBit 1 <;> simp [bt, h]
  | false =>
    rw [and1 k (by omega) _ (by decide)]
    cases h : k.testBit 0 <;> simp [bt, h]
theorem keys_setI (l : List (Int × Int)) (v y : Int) : ∀ u, u ∈ (setI l v y).map (·.1) ↔ u ∈ l.map (·.1) ∨ u = v := by
  induction l with
  | nil => intro u; simp [setI]
  | cons p l ih =>
    obtain ⟨k, z⟩ := p
    intro u
    simp only [setI]
    split
    · rename_i h
      simp only [beq_iff_eq] at h
      subst h
      simp only [List.map_cons, List.mem_cons]
      constructor
      · rintro (h | h)
        · exact .inr h
        · exact .inl (.inr h)
      · rintro ((h | h) | h)
        · exact .inl h
        · exact .inr h
        · exact .inl h
    · simp only [List.map_cons, List.mem_cons, ih u, or_assoc]
theorem nodup_setI {l : List (Int × Int)} (h : (l.map (·.1)).Nodup) (v y : Int) : ((setI l v y).map (·.1)).Nodup := by
  induction l with
  | nil => simp [setI]
  | cons p l ih =>
    obtain ⟨k, z⟩ := p
    simp only [List.map_cons, List.nodup_cons] at h
    simp only [setI]
    split
    · rename_i hk
      simp only [beq_iff_eq] at hk
      subst hk
      simp only [List.map_cons, List.nodup_cons]
      exact h
    · rename_i hk
      simp only [beq_iff_eq] at hk
      simp only [List.map_cons, List.nodup_cons]
      refine ⟨fun hm => ?_, ih h.2⟩
      rcases (keys_setI l v y k).1 hm with h1 | h1
      · exact h.1 h1
      · exact hk h1.symm
/-- What a map of a row's first places says. -/
structure ValI (r : Int) (vars : List Int) (i : Nat) (m : List (Int × Int)) : Prop where
  nd : (m.map (·.1)).Nodup
  get : ∀ j, j < i → m.lookup (vars.getD j 0) = some (rbI r j)
  from_ : ∀ v y, m.lookup v = some y → ∃ j, j < i ∧ vars.getD j 0 = v ∧ y = rbI r j
theorem valsF_law (r : Int) (all : List Int) : ∀ (vars : List Int) (i : Nat) (m : List (Int × Int)), all.drop i = vars → i ≤ all.length → ValI r all i m →
    match valsF r vars i m with
    | some x => ValI r all all.length x
    | none => ∃ j k, j < all.length ∧ k < all.length ∧ all.getD j 0 = all.getD k 0 ∧ rbI r j ≠ rbI r k
  | [], i, m, hd, hi, h => by
    have : i = all.length := by
      have := congrArg List.length hd
      simp at this
      omega
    subst this
    exact h
  | v :: vs, i, m, hd, hi, h => by
    have hlt : i < all.length := by
      have := congrArg List.length hd
      simp at this
      omega
    rw [List.drop_eq_getElem_cons hlt] at hd
    simp only [List.cons.injEq] at hd
    obtain ⟨hv, hd⟩ := hd
    have hv' : all.getD i 0 = v := by rw [getD_mem hlt, hv]
    rw [valsF]
    by_cases hall : (m.lookup v).all (fun y => y == andI (shrI r i) 1) = true
    · rw [if_pos hall]
      refine valsF_law r all vs (i + 1) _ hd hlt ⟨nodup_setI h.nd _ _, fun j hj => ?_, fun u y hu => ?_⟩
      · rw [lookup_setI]
        by_cases e : all.getD j 0 = v
        · rw [if_pos (by simpa using e)]
          by_cases ej : j = i
          · subst ej
            rfl
          · have h1 := h.get j (by omega)
            rw [e] at h1
            rw [h1] at hall
            simp only [Option.all_some, beq_iff_eq] at hall
            rw [hall]
        · rw [if_neg (by simpa using e)]
          exact h.get j (by
            rcases Nat.lt_or_ge j i with h1 | h1
            · exact h1
            · have : j = i := by omega
              subst this
              exact absurd hv' e)
      · rw [lookup_setI] at hu
        by_cases e : u = v
        · rw [if_pos (by simpa using e)] at hu
          cases hu
          exact ⟨i, by omega, by rw [hv', e], rfl⟩
        · rw [if_neg (by simpa using e)] at hu
          obtain ⟨j, hj, h1, h2⟩ := h.from_ u y hu
          exact ⟨j, by omega, h1, h2⟩
    · rw [if_neg hall]
      cases hlk : m.lookup v with
      | none => rw [hlk] at hall; simp at hall
      | some y =>
        rw [hlk] at hall
        simp only [Option.all_some, beq_iff_eq] at hall
        obtain ⟨j, hj, h1, h2⟩ := h.from_ v y hlk
        exact ⟨j, i, by omega, hlt, by rw [h1, hv'], fun e => hall (h2.trans e)⟩
theorem agreesF_iff {c : Cn} {r : Int} : agreesF c r = true ↔ ∀ i j, i < c.vars.length → j < c.vars.length → vAt c i = vAt c j → bt r i = bt r j := by
  simp only [agreesF, List.all_eq_true, List.mem_range, Bool.or_eq_true, Bool.not_eq_true', beq_eq_false_iff_ne, beq_iff_eq]
  constructor
  · intro h i j hi hj e
    rcases h i hi j hj with h1 | h1
    · exact absurd e h1
    · exact h1
  · intro h i hi j hj
    by_cases e : vAt c i = vAt c j
    · exact .inr (h i j hi hj e)
    · exact .inl e
theorem rbI_ne {r : Int} (hr : InN 3 r) {j k : Nat} (hj : j ≤ 62) (hk : k ≤ 62) : rbI r j = rbI r k ↔ bt r j = bt r k := by
  rw [rbI_eq hr hj, rbI_eq hr hk]
  cases bt r j <;> cases bt r k <;> simp
theorem vals_some {c : Cn} {r : Int} (hr : InN 3 r) (hc : c.vars.length ≤ 3) (ha : agreesF c r = true) : ∃ x, valsF r c.vars 0 [] = some x ∧ ValI r c.vars c.vars.length x := by
  have := valsF_law r c.vars c.vars 0 [] rfl (by omega) ⟨by simp, fun j hj => by omega, fun v y h => by simp at h⟩
  cases h : valsF r c.vars 0 [] with
  | some x =>
    rw [h] at this
    exact ⟨x, rfl, this⟩
  | none =>
    rw [h] at this
    obtain ⟨j, k, hj, hk, e, hne⟩ := this
    exact absurd ((rbI_ne hr (by omega) (by omega)).2 (agreesF_iff.1 ha j k hj hk e)) hne
theorem vals_none {c : Cn} {r : Int} (hr : InN 3 r) (hc : c.vars.length ≤ 3) (ha : agreesF c r = false) : valsF r c.vars 0 [] = none := by
  have := valsF_law r c.vars c.vars 0 [] rfl (by omega) ⟨by simp, fun j hj => by omega, fun v y h => by simp at h⟩
  cases h : valsF r c.vars 0 [] with
  | none => rfl
  | some x =>
    rw [h] at this
    have h2 : agreesF c r = true := by
      rw [agreesF_iff]
      intro i j hi hj e
      have h1 := this.get i hi
      have h3 := this.get j hj
      rw [show c.vars.getD i 0 = vAt c i from rfl, e, show vAt c j = c.vars.getD j 0 from rfl, h3] at h1
      exact (rbI_ne hr (by omega) (by omega)).1 (Option.some.inj h1).symm
    rw [h2] at ha
    cases ha
theorem val_ok {c : Cn} {r : Int} {x : List (Int × Int)} (hr : InN 3 r) (hc : c.vars.length ≤ 3) (hx : ValI r c.vars c.vars.length x) {D : List Int} (h2 : ∀ x ∈ D, InN 2 x) : okX D x = (List.range c.vars.length).all fun j => dv D (vAt c j) (bt r j) := by
  rw [Bool.eq_iff_iff]
  simp only [okX, List.all_eq_true, List.mem_range]
  constructor
  · intro h j hj
    have h1 := hx.get j hj
    obtain ⟨l1, l2, hxe, _⟩ := List.lookup_eq_some_iff.1 h1
    have := h (c.vars.getD j 0, rbI r j) (by rw [hxe]; simp)
    simp only at this
    rw [rbI_eq hr (by omega), live_eq h2] at this
    exact this
  · intro h p hp
    obtain ⟨i, hi, rfl⟩ := List.getElem_of_mem hp
    have hlk := lookup_of hx.nd (i := i) (q := x[i]) (by simp)
    obtain ⟨j, hj, h1, h3⟩ := hx.from_ _ _ hlk
    rw [h3, rbI_eq hr (by omega), live_eq h2, ← h1]
    exact h j hj
/-- What a row leaves. -/
def leftS (D : List Int) (c : Cn) (g : Int → Int) (r : Int) : Int → Int := fun v => match valsF r c.vars 0 [] with
  | some x => if okX D x then addX' g x v else g v
  | none => g v
where addX' (g : Int → Int) (x : List (Int × Int)) (v : Int) : Int := match x.lookup v with
  | some y => orI (g v) (shlI 1 y.toNat)
  | none => g v
theorem bt_small (a b : Bool) : bt (if a then (2 : Int) else 1) b.toNat = (a == b) := by cases a <;> cases b <;> decide
theorem leftS_law {D : List Int} (h2 : ∀ x ∈ D, InN 2 x) {c : Cn} (hc : c.vars.length ≤ 3) : ∀ (rows : List Int) (g : Int → Int), (∀ x ∈ rows, InN 3 x) → (∀ v, InN 2 (g v)) →
    (∀ v, InN 2 ((rows.foldl (leftS D c) g) v)) ∧ ∀ v a, bt ((rows.foldl (leftS D c) g) v) a.toNat = (bt (g v) a.toNat || rows.any fun r => agreesF c r && ((List.range c.vars.length).all fun j => dv D (vAt c j) (bt r j)) && (List.range c.vars.length).any fun i => vAt c i == v && bt r i == a)
  | [], g, _, hg => ⟨hg, fun v a => by simp⟩
  | r :: rows, g, hin, hg => by
    have hr := hin r (by simp)
    have key : (∀ v, InN 2 (leftS D c g r v)) ∧ ∀ v (a : Bool), bt (leftS D c g r v) a.toNat = (bt (g v) a.toNat || (agreesF c r && ((List.range c.vars.length).all fun j => dv D (vAt c j) (bt r j)) && (List.range c.vars.length).any fun i => vAt c i == v && bt r i == a)) := by
      cases ha : agreesF c r with
      | false =>
        have hn := vals_none hr hc ha
        refine ⟨fun v => ?_, fun v a => ?_⟩
        · rw [leftS, hn]
          exact hg v
        · rw [leftS, hn]
          simp
      | true =>
        obtain ⟨x, hx, hv⟩ := vals_some hr hc ha
        have hok := val_ok hr hc hv h2
        cases ho : okX D x with
        | false =>
          rw [ho] at hok
          refine ⟨fun v => ?_, fun v a => ?_⟩
          · simp only [leftS, hx, ho]
            exact hg v
          · simp only [leftS, hx, ho, ← hok]
            simp
        | true =>
          rw [ho] at hok
          have hval : ∀ v, leftS D c g r v = leftS.addX' g x v := fun v => by simp only [leftS, hx, ho, if_true]
          have hcase : ∀ v, (∃ i, i < c.vars.length ∧ vAt c i = v ∧ x.lookup v = some (if bt r i then 1 else 0)) ∨ ((∀ i, i < c.vars.length → vAt c i ≠ v) ∧ x.lookup v = none) := by
            intro v
            cases hlk : x.lookup v with
            | some y =>
              obtain ⟨j, hj, h1, h3⟩ := hv.from_ v y hlk
              left
              refine ⟨j, hj, h1, ?_⟩
              rw [h3, rbI_eq hr (by omega)]
            | none =>
              right
              refine ⟨fun i hi e => ?_, rfl⟩
              have := hv.get i hi
              rw [show c.vars.getD i 0 = vAt c i from rfl, e, hlk] at this
              cases this
          have hsh : ∀ b : Bool, shlI 1 (if b then (1 : Int) else 0).toNat = if b then (2 : Int) else 1 := by
            intro b
            cases b
            · exact shl1 0 (by omega)
            · exact shl1 1 (by omega)
          have hin2 : ∀ b : Bool, InN 2 (if b then (2 : Int) else 1) := by
            intro b
            cases b
            · exact ⟨1, rfl, by decide⟩
            · exact ⟨2, rfl, by decide⟩
          refine ⟨fun v => ?_, fun v a => ?_⟩
          · rw [hval, leftS.addX']
            rcases hcase v with ⟨i, hi, e, hlk⟩ | ⟨hno, hlk⟩
            · simp only [hlk, hsh]
              exact inN_or (by omega) (hg v) (hin2 _)
            · simp only [hlk]
              exact hg v
          · rw [hval, leftS.addX', ← hok]
            rcases hcase v with ⟨i, hi, e, hlk⟩ | ⟨hno, hlk⟩
            · simp only [hlk, hsh]
              rw [bt_or (by omega) (hg v) (hin2 _), bt_small]
              congr 1
              rw [Bool.eq_iff_iff]
              simp only [Bool.true_and, List.any_eq_true, List.mem_range, Bool.and_eq_true, beq_iff_eq]
              constructor
              · intro h
                exact ⟨i, hi, e, h⟩
              · rintro ⟨k, hk, h1, h3⟩
                rw [← h3]
                exact agreesF_iff.1 ha i k hi hk (e.trans h1.symm)
            · simp only [hlk]
              have : ((List.range c.vars.length).any fun i => vAt c i == v && bt r i == a) = false := by
                rw [List.any_eq_false]
                intro i hi
                rw [List.mem_range] at hi
                simp [hno i hi]
              simp [this]
    obtain ⟨i1, i2⟩ := leftS_law h2 hc rows (leftS D c g r) (fun x hx => hin x (by simp [hx])) key.1
    refine ⟨i1, fun v a => ?_⟩
    rw [List.foldl_cons, i2 v a, key.2 v a, List.any_cons, Bool.or_assoc]
/-- The values that some row leaves to a variable. -/
theorem left_sup {D : List Int} (h2 : ∀ x ∈ D, InN 2 x) {c : Cn} (hc : c.vars.length ≤ 3) {rows : List Int} (hin : ∀ x ∈ rows, InN 3 x) {i : Nat} (hi : i < c.vars.length) (a : Bool) :
    InN 2 ((rows.foldl (leftS D c) fun _ => 0) (vAt c i)) ∧ (bt ((rows.foldl (leftS D c) fun _ => 0) (vAt c i)) a.toNat = supF rows c D i a) := by
  obtain ⟨l1, l2⟩ := leftS_law h2 hc rows (fun _ => 0) hin fun v => ⟨0, rfl, by decide⟩
  refine ⟨l1 _, ?_⟩
  rw [l2, Bool.eq_iff_iff, supF_iff]
  simp only [bt, Int.toNat_zero, Nat.zero_testBit, Bool.false_or, List.any_eq_true, Bool.and_eq_true, List.all_eq_true, List.mem_range, beq_iff_eq]
  constructor
  · rintro ⟨r, hr, ⟨ha, hd⟩, k, hk, h1, h3⟩
    refine ⟨r, hr, ?_, ha, hd⟩
    rw [← h3]
    exact agreesF_iff.1 ha i k hi hk h1.symm
  · rintro ⟨r, hr, h1, ha, hd⟩
    exact ⟨r, hr, ⟨ha, hd⟩, i, hi, rfl, h1⟩
end Go.Proofs.Ytmneioafbkknhaa
