import Derived.Test.YtnikonhkbldnnaaGreatDoorPSF
/- PSG: a region that draws its order, and makes memory in parts that do not wait for each other. -/
set_option linter.unusedVariables false
set_option linter.unusedSimpArgs false
namespace Go.PS
open Go Go.RowKit
@[simp] theorem men_dead (m : Nat) : Res.men m .dead = false := rfl
@[simp] theorem men_row (m ty sz : Nat) (k : Kind) (xs : List (List TL)) : Res.men m (.row ty sz k xs) = false := rfl
@[simp] theorem men_blk (m ty : Nat) (cs : List PV) : Res.men m (.blk ty cs) = PV.menL m cs := rfl
@[simp] theorem men_tab (m : Nat) (k : Kind) (es : List (Value × TL)) : Res.men m (.tab k es) = false := rfl
@[simp] theorem kill_dead (m : Nat) : Res.kill m .dead = .dead := rfl
@[simp] theorem kill_row (m ty sz : Nat) (k : Kind) (xs : List (List TL)) : Res.kill m (.row ty sz k xs) = .row ty sz k xs := rfl
@[simp] theorem kill_blk (m ty : Nat) (cs : List PV) : Res.kill m (.blk ty cs) = .blk ty (cs.map fun x => if x.men m then .undef else x) := rfl
@[simp] theorem kill_tab (m : Nat) (k : Kind) (es : List (Value × TL)) : Res.kill m (.tab k es) = .tab k es := rfl
@[simp] theorem cndR_kill (b : Bool) (r : Res) (m : Nat) : Res.kill m (cndR b r) = cndR b (Res.kill m r) := by cases b <;> rfl
@[simp] theorem cndR_men (b : Bool) (r : Res) (m : Nat) : Res.men m (cndR b r) = (b && Res.men m r) := by cases b <;> rfl
/-- Names that may not be there yet are out of sight. -/
def hideS (z : List Nat) (s : StL) : StL := match z with
  | [] => s
  | z => ⟨s.T, s.M.filter fun p => !z.contains p.1⟩
@[simp] theorem hideS_nil (s : StL) : hideS [] s = s := rfl
@[simp] theorem hideS_cons (x : Nat) (z : List Nat) (s : StL) : hideS (x :: z) s = ⟨s.T, s.M.filter fun p => !(x :: z).contains p.1⟩ := rfl
theorem hideS_T (z : List Nat) (s : StL) : (hideS z s).T = s.T := by cases z <;> rfl
theorem getM_filterZ (z : List Nat) (q : Nat) : ∀ M : List (Nat × Res), getM (M.filter fun p => !z.contains p.1) q = if z.contains q = true then .dead else getM M q
  | [] => by simp [getM]
  | (k, r) :: M => by
    have ih := getM_filterZ z q M
    by_cases hk : z.contains k = true
    · rw [List.filter_cons_of_neg (by simp at hk ⊢; exact hk), ih]
      by_cases e : k = q
      · subst e
        rw [if_pos hk, if_pos hk]
      · simp only [getM]
        rw [if_neg e]
    · rw [List.filter_cons_of_pos (by simp at hk ⊢; exact hk)]
      simp only [getM]
      by_cases e : k = q
      · subst e
        rw [if_pos rfl, if_pos rfl, if_neg hk]
      · rw [if_neg e, if_neg e, ih]
theorem getM_hide (z : List Nat) (s : StL) (q : Nat) : getM (hideS z s).M q = if z.contains q = true then .dead else getM s.M q := by
  cases z with
  | nil => simp
  | cons x z => exact getM_filterZ _ _ _
/-- None of these names is spoken of. -/
def clearOf (z : List Nat) (q : PV) (r : Option Res) : Bool := z.all fun x => !q.men x && match r with
  | some r => !r.men x
  | none => true
def DrawZ (P : Program) (n : Nat) (ops : Array Oper) (m : Nat) (As : List Nat) (Zs : List (List Nat)) : Nat → List Oper → StL → (StL → Prop) → Prop
  | _, [], s, K => K s
  | i, o :: rest, s, K => if i < m then match o.dst with
      | none => False
      | some d => d < n ∧ EffW P ops o d (hideS (Zs.getD i []) s) fun q res => ((res.isSome = true → As.contains i = true ∧ s.free d = true) ∧ clearOf (Zs.getD i []) q res = true) ∧ DrawZ P n ops m As Zs (i + 1) rest (app1 d q res s) K
    else RunW P n ops (o :: rest) s K
section
variable {P : Program} {n : Nat} {ops : Array Oper}
/-- The plan's line j. -/
def GoodZ (P : Program) (n : Nat) (ops : Array Oper) (As : List Nat) (Zs : List (List Nat)) (e : Nat → PV × Option Res) (s0 : StL) (j : Nat) : Prop :=
  ∃ o d, ops[j]? = some o ∧ o.dst = some d ∧ d < n ∧ EffW P ops o d (hideS (Zs.getD j []) (stOf e (dstAt ops) s0 (desc j))) (fun q r => q = (e j).1 ∧ r = (e j).2) ∧
    ((e j).2.isSome = true → As.contains j = true ∧ (stOf e (dstAt ops) s0 (desc j)).free d = true) ∧ clearOf (Zs.getD j []) (e j).1 (e j).2 = true

theorem drawZ_plan {m : Nat} {As : List Nat} {Zs : List (List Nat)} {s0 : StL} {K : StL → Prop} (hm : m ≤ ops.size) : ∀ (k i : Nat) (e0 : Nat → PV × Option Res), i + k = m → DrawZ P n ops m As Zs i (ops.toList.drop i) (stOf e0 (dstAt ops) s0 (desc i)) K →
    ∃ e, (∀ j, j < i → e j = e0 j) ∧ (∀ j, i ≤ j → j < m → GoodZ P n ops As Zs e s0 j) ∧ RunW P n ops (ops.toList.drop m) (stOf e (dstAt ops) s0 (desc m)) K
  | 0, i, e0, hk, h => by
    have : i = m := by omega
    subst this
    refine ⟨e0, fun _ _ => rfl, fun j h1 h2 => by omega, ?_⟩
    cases hl : ops.toList.drop i with
    | nil => rw [hl] at h; exact h
    | cons o rest =>
      rw [hl] at h
      simp only [DrawZ] at h
      rwa [if_neg (by omega)] at h
  | k + 1, i, e0, hk, h => by
    have hi : i < ops.size := by omega
    have hdrop : ops.toList.drop i = ops[i] :: ops.toList.drop (i + 1) := by
      rw [List.drop_eq_getElem_cons (by simpa using hi)]
      simp
    rw [hdrop] at h
    simp only [DrawZ] at h
    rw [if_pos (by omega)] at h
    split at h
    · exact h.elim
    · rename_i d hd
      obtain ⟨hdn, h⟩ := h
      obtain ⟨q, r, ⟨hres, hrest⟩, heff⟩ := h.pick
      have hda : dstAt ops i = d := by simp [dstAt, hi, hd]
      let e1 : Nat → PV × Option Res := fun j => if j = i then (q, r) else e0 j
      have he1 : ∀ j, j < i → e1 j = e0 j := fun j hj => by simp [e1, Nat.ne_of_lt hj]
      have hst : stOf e1 (dstAt ops) s0 (desc i) = stOf e0 (dstAt ops) s0 (desc i) := stOf_congr fun j hj => he1 j (mem_desc.1 hj)
      have hst' : stOf e1 (dstAt ops) s0 (desc (i + 1)) = app1 d q r (stOf e0 (dstAt ops) s0 (desc i)) := by
        simp only [desc, stOf, hst, hda]
        simp [e1]
      rw [← hst'] at hrest
      obtain ⟨e, h1, h2, h3⟩ := drawZ_plan hm k (i + 1) e1 (by omega) hrest
      refine ⟨e, fun j hj => (h1 j (by omega)).trans (he1 j hj), fun j hj1 hj2 => ?_, h3⟩
      by_cases e' : j = i
      · subst e'
        have hei : e j = (q, r) := by rw [h1 j (by omega)]; simp [e1]
        have hst2 : stOf e (dstAt ops) s0 (desc j) = stOf e0 (dstAt ops) s0 (desc j) := stOf_congr fun k hk => (h1 k (by have := mem_desc.1 hk; omega)).trans (he1 k (mem_desc.1 hk))
        refine ⟨ops[j], d, by simp [hi], hd, hdn, ?_, ?_⟩
        · rw [hst2, hei]; exact heff
        · refine ⟨?_, by rw [hei]; exact hres.2⟩
          rw [hst2, hei]; exact hres.1
      · exact h2 j (by omega) hj2

def drawOkZ (ops : Array Oper) (m : Nat) (As : List Nat) (Zs : List (List Nat)) (D : List Nat) : Bool :=
  decide (m ≤ ops.size) &&
  (List.range ops.size).all (fun i => match ops[i]? with
    | none => false
    | some o => o.after.toList.all (fun e => !Region.binds .any e || decide (e.on < i)) && (D.getD i 0 == maskOf D o) &&
        (if i < m then
          (o.dst.isSome && (o.looksAt ops).all (fun t => (List.range m).all fun j => (dstAt ops j != t) || j == i || (if j < i then dep D j i else dep D i j)) &&
            (List.range i).all (fun j => dstAt ops j != dstAt ops i) && (!As.contains i || (List.range m).all fun j => decide (j ≤ i) || (dep D i j || (Zs.getD j []).contains (dstAt ops i))))
        else (List.range i).all fun j => dep D j i))



end
/-- What is known of a region that passes. -/
structure PassesZ (ops : Array Oper) (m : Nat) (As : List Nat) (Zs : List (List Nat)) (D : List Nat) : Prop where
  le : m ≤ ops.size
  back : ∀ i o e, ops[i]? = some o → e ∈ o.after.toList → Region.binds .any e = true → e.on < i
  fix : ∀ i o k, ops[i]? = some o → dep D k i = true → ∃ e ∈ o.after.toList, Region.binds .any e = true ∧ (e.on = k ∨ dep D k e.on = true)
  look : ∀ i o t j, i < m → ops[i]? = some o → t ∈ o.looksAt ops → j < m → dstAt ops j = t → j = i ∨ (j < i ∧ dep D j i = true) ∨ (i < j ∧ dep D i j = true)
  uniq : ∀ i j, i < m → j < m → dstAt ops i = dstAt ops j → i = j
  born : ∀ i j, i < m → j < m → As.contains i = true → i < j → dep D i j = true ∨ (Zs.getD j []).contains (dstAt ops i) = true
  seq : ∀ i j, m ≤ i → i < ops.size → j < i → dep D j i = true

theorem passesZ_of {ops : Array Oper} {m : Nat} {As D : List Nat} {Zs : List (List Nat)} (h : drawOkZ ops m As Zs D = true) : PassesZ ops m As Zs D := by
  simp only [drawOkZ, Bool.and_eq_true, decide_eq_true_eq, List.all_eq_true, List.mem_range] at h
  obtain ⟨hle, hall⟩ := h
  have hat : ∀ i o, ops[i]? = some o → (∀ e ∈ o.after.toList, Region.binds .any e = true → e.on < i) ∧ D.getD i 0 = maskOf D o ∧
      (i < m → (∀ t ∈ o.looksAt ops, ∀ j, j < m → dstAt ops j = t → j = i ∨ (j < i ∧ dep D j i = true) ∨ (i < j ∧ dep D i j = true)) ∧ (∀ j, j < i → dstAt ops j ≠ dstAt ops i) ∧ (As.contains i = true → ∀ j, j < m → i < j → dep D i j = true ∨ (Zs.getD j []).contains (dstAt ops i) = true)) ∧
      (m ≤ i → ∀ j, j < i → dep D j i = true) := by
    intro i o hi
    have hlt : i < ops.size := (Array.getElem?_eq_some_iff.1 hi).1
    have := hall i hlt
    rw [hi] at this
    simp only [Bool.and_eq_true, beq_iff_eq] at this
    obtain ⟨⟨h1, h2⟩, h3⟩ := this
    refine ⟨fun e he hb => ?_, h2, fun him => ?_, fun him => ?_⟩
    · have := List.all_eq_true.1 h1 e he
      simpa [hb] using this
    · rw [if_pos him] at h3
      simp only [Bool.and_eq_true] at h3
      obtain ⟨⟨⟨_, h4⟩, h5⟩, h6⟩ := h3
      refine ⟨fun t ht j hj hd => ?_, fun j hj => ?_, fun hA j hj hij => ?_⟩
      · have := List.all_eq_true.1 (List.all_eq_true.1 h4 t ht) j (List.mem_range.2 hj)
        simp only [Bool.or_eq_true, bne_iff_ne, ne_eq, beq_iff_eq] at this
        rcases this with (h7 | h7) | h7
        · exact absurd hd h7
        · exact .inl h7
        · by_cases hji : j < i
          · rw [if_pos hji] at h7; exact .inr (.inl ⟨hji, h7⟩)
          · rw [if_neg hji] at h7
            by_cases e : j = i
            · exact .inl e
            · exact .inr (.inr ⟨by omega, h7⟩)
      · have := List.all_eq_true.1 h5 j (List.mem_range.2 hj)
        simpa using this
      · simp only [hA, Bool.not_true, Bool.false_or] at h6
        have := List.all_eq_true.1 h6 j (List.mem_range.2 hj)
        simp only [Bool.or_eq_true, decide_eq_true_eq] at this
        exact this.resolve_left (by omega)
    · rw [if_neg (by omega)] at h3
      exact fun j hj => List.all_eq_true.1 h3 j (List.mem_range.2 hj)
  have hget : ∀ i, i < ops.size → ∃ o, ops[i]? = some o := fun i hi => ⟨ops[i], by simp [hi]⟩
  refine ⟨hle, fun i o e hi he hb => (hat i o hi).1 e he hb, fun i o k hi hk => ?_, fun i o t j him hi ht hj hd => ((hat i o hi).2.2.1 him).1 t ht j hj hd, fun i j hi hj hd => ?_, fun i j hi hj hA hij => ?_, fun i j him hi hj => ?_⟩
  · have h2 := (hat i o hi).2.1
    unfold dep at hk
    rw [h2] at hk
    exact (foldl_bits D k o.after.toList 0 hk).resolve_left (by simp)
  · obtain ⟨o, ho⟩ := hget i (by omega)
    obtain ⟨o', ho'⟩ := hget j (by omega)
    rcases Nat.lt_trichotomy i j with h1 | h1 | h1
    · exact absurd hd (((hat j o' ho').2.2.1 hj).2.1 i h1)
    · exact h1
    · exact absurd hd.symm (((hat i o ho).2.2.1 hi).2.1 j h1)
  · obtain ⟨o, ho⟩ := hget i (by omega)
    exact ((hat i o ho).2.2.1 hi).2.2 hA j hj hij
  · obtain ⟨o, ho⟩ := hget i hi
    exact (hat i o ho).2.2.2 him j hj

section
variable {P : Program} {n : Nat} {ops : Array Oper} {w0 : Base} {F0 : Nat → Prop}
/-- The run of a region in any order: what has been done is what the plan says. -/
theorem drawZ_any {m : Nat} {As D : List Nat} {Zs : List (List Nat)} (hp : PassesZ ops m As Zs D) {e : Nat → PV × Option Res} {s0 : StL} {K : StL → Prop} {Q : Exit → Act → World → Prop} (hg : ∀ j, j < m → GoodZ P n ops As Zs e s0 j)
    (hrest : RunW P n ops (ops.toList.drop m) (stOf e (dstAt ops) s0 (desc m)) K) (hK : ∀ s' a' w', K s' → Sim w0 F0 n s' a' w' → Q .normal a' w') :
    ∀ (fuel : Nat) (listed : Array Bool) (a : Act) (w : World), listed.size = ops.size → cnt (fun i => !listed.getD i true) ops.size ≤ fuel →
      ((∃ l : List Nat, (∀ i, i < ops.size → (listed.getD i true = true ↔ i ∈ l)) ∧ (∀ i ∈ l, i < m) ∧ (∀ i ∈ l, ∀ k, dep D k i = true → k ∈ l) ∧ Sim w0 F0 n (stOf e (dstAt ops) s0 l) a w) ∨
       (∃ k, m ≤ k ∧ k ≤ ops.size ∧ (∀ i, i < ops.size → (listed.getD i true = true ↔ i < k)) ∧ wpList P ops Q (ops.toList.drop k) a w)) →
      wpAny P .any ops Q fuel listed a w := by
  -- the second half: one after the other
  have two : ∀ (fuel : Nat) (listed : Array Bool) (a : Act) (w : World), listed.size = ops.size → cnt (fun i => !listed.getD i true) ops.size ≤ fuel →
      (∃ k, m ≤ k ∧ k ≤ ops.size ∧ (∀ i, i < ops.size → (listed.getD i true = true ↔ i < k)) ∧ wpList P ops Q (ops.toList.drop k) a w) → wpAny P .any ops Q fuel listed a w := by
    intro fuel
    have hend : ∀ (listed : Array Bool) (a : Act) (w : World) (k : Nat), listed.size = ops.size → m ≤ k → k ≤ ops.size → (∀ i, i < ops.size → (listed.getD i true = true ↔ i < k)) → wpList P ops Q (ops.toList.drop k) a w →
        Region.ready .any ops listed = [] → Q .normal a w := by
      intro listed a w k hs hmk hk hl hw hr
      have hkn : k = ops.size := by
        rcases Nat.lt_or_ge k ops.size with hlt | hge
        · exfalso
          have : k ∈ Region.ready .any ops listed := ready_iff.2 ⟨ops[k], by simp [hlt], by
            cases hx : listed.getD k true with
            | false => rfl
            | true => exact absurd ((hl k hlt).1 hx) (by omega), fun e he hb => by
            have := hp.back k ops[k] e (by simp [hlt]) he hb
            have h2 := (hl e.on (by omega)).2 this
            simpa [Array.getD_eq_getD_getElem?, show e.on < listed.size by omega] using h2⟩
          rw [hr] at this
          simp at this
        · omega
      rw [hkn, List.drop_of_length_le (by simp)] at hw
      exact hw
    induction fuel with
    | zero =>
      rintro listed a w hs hc ⟨k, hmk, hk, hl, hw⟩
      have hr : Region.ready .any ops listed = [] := by
        rw [List.eq_nil_iff_forall_not_mem]
        intro i hi
        obtain ⟨o, ho, h1, _⟩ := ready_iff.1 hi
        have := cnt_zero (by omega : cnt (fun i => !listed.getD i true) ops.size = 0) i (Array.getElem?_eq_some_iff.1 ho).1
        simp [h1] at this
      exact ⟨hr, hend listed a w k hs hmk hk hl hw hr⟩
    | succ fuel ih =>
      rintro listed a w hs hc ⟨k, hmk, hk, hl, hw⟩
      refine ⟨fun hr => hend listed a w k hs hmk hk hl hw hr, fun i hi => ?_⟩
      obtain ⟨o, ho, h1, h2⟩ := ready_iff.1 hi
      have hin : i < ops.size := (Array.getElem?_eq_some_iff.1 ho).1
      have hik : i = k := by
        have hge : ¬ i < k := fun h => by rw [(hl i hin).2 h] at h1; cases h1
        rcases Nat.lt_or_ge k i with hlt | hge'
        · exfalso
          have hd := hp.seq i k (by omega) hin hlt
          -- its predecessors are listed, all the way
          have : ∀ i, i < ops.size → (∀ o, ops[i]? = some o → ∀ e ∈ o.after.toList, Region.binds .any e = true → e.on < k) → dep D k i = true → False := by
            intro i hi hb hd
            obtain ⟨e, he, hbe, hke⟩ := hp.fix i ops[i] k (by simp [hi]) hd
            have he1 := hb ops[i] (by simp [hi]) e he hbe
            rcases hke with rfl | hke
            · omega
            · -- an edge to something below k that waits for k
              have : ∀ j, j < k → dep D k j = true → False := by
                intro j
                induction j using Nat.strongRecOn with
                | _ j ihj =>
                  intro hj hdj
                  have hjn : j < ops.size := by omega
                  obtain ⟨e, he, hbe, hke⟩ := hp.fix j ops[j] k (by simp [hjn]) hdj
                  have := hp.back j ops[j] e (by simp [hjn]) he hbe
                  rcases hke with rfl | hke
                  · omega
                  · exact ihj e.on this (by omega) hke
              exact this e.on he1 hke
          refine this i hin (fun o' ho' e he hb => ?_) hd
          rw [ho] at ho'
          cases ho'
          have h3 := h2 e he hb
          have hen : e.on < ops.size := by have := hp.back i o e ho he hb; omega
          exact (hl e.on hen).1 (by simpa [Array.getD_eq_getD_getElem?, show e.on < listed.size by omega] using h3)
        · omega
      subst hik
      have hdrop : ops.toList.drop i = o :: ops.toList.drop (i + 1) := by
        rw [List.drop_eq_getElem_cons (by simpa using hin)]
        have : ops[i] = o := by simpa [hin] using ho
        simp [this]
      rw [hdrop] at hw
      have hset : ∀ j, (listed.setIfInBounds i true).getD j true = (listed.getD j true || j == i) := by
        intro j
        simp only [Array.getD_eq_getD_getElem?, Array.getElem?_setIfInBounds]
        by_cases e : i = j
        · subst e; simp [show i < listed.size by omega]
        · have e' : (j == i) = false := by simp; omega
          simp [e, e']
      have next : ∀ a' w', wpList P ops Q (ops.toList.drop (i + 1)) a' w' → wpAny P .any ops Q fuel (listed.setIfInBounds i true) a' w' := by
        intro a' w' hw'
        refine ih _ _ _ (by simpa using hs) ?_ ⟨i + 1, by omega, by omega, fun j hj => ?_, hw'⟩
        · have := cnt_one (p := fun i => !listed.getD i true) (p' := fun j => !(listed.setIfInBounds i true).getD j true) (i := i) (by simp [h1]) (fun j => by simp only [hset]; simp [bne]) hin
          omega
        · rw [hset]
          simp only [Bool.or_eq_true, beq_iff_eq]
          rw [hl j hj]
          omega
      unfold wpOp
      rw [ho]
      simp only [wpList] at hw ⊢
      split
      · rename_i hw1
        rw [if_pos hw1] at hw
        exact hw.imp (Oper.wp_mono next) id
      · rename_i hw1
        rw [if_neg hw1] at hw
        exact next _ _ hw
  intro fuel
  -- at the turn
  have turn : ∀ (l : List Nat) (a : Act) (w : World), (∀ i ∈ l, i < m) → (∀ i, i < m → i ∈ l) → Sim w0 F0 n (stOf e (dstAt ops) s0 l) a w → wpList P ops Q (ops.toList.drop m) a w := by
    intro l a w h1 h2 h3
    refine runW_wp _ (h3.weak ⟨fun t => .inl ?_, fun q => .inl ?_⟩) hrest hK
    · by_cases ht : ∃ j, j < m ∧ dstAt ops j = t
      · obtain ⟨j, hj, rfl⟩ := ht
        rw [getT_stOf_hit (mem_desc.2 hj) (fun k hk hd => hp.uniq k j (mem_desc.1 hk) hj hd), getT_stOf_hit (h2 j hj) (fun k hk hd => hp.uniq k j (h1 k hk) hj hd)]
      · rw [getT_stOf_other fun j hj hd => ht ⟨j, mem_desc.1 hj, hd⟩, getT_stOf_other fun j hj hd => ht ⟨j, h1 j hj, hd⟩]
    · by_cases ht : ∃ j, j < m ∧ dstAt ops j = q ∧ (e j).2.isSome = true
      · obtain ⟨j, hj, rfl, hs⟩ := ht
        obtain ⟨r, hr⟩ := Option.isSome_iff_exists.1 hs
        rw [getM_stOf_hit hr (mem_desc.2 hj) (fun k hk hd => hp.uniq k j (mem_desc.1 hk) hj hd), getM_stOf_hit hr (h2 j hj) (fun k hk hd => hp.uniq k j (h1 k hk) hj hd)]
      · rw [getM_stOf_other fun j hj hs hd => ht ⟨j, mem_desc.1 hj, hd, hs⟩, getM_stOf_other fun j hj hs hd => ht ⟨j, h1 j hj, hd, hs⟩]
  -- where nothing is ready all has been done
  have none_ready : ∀ (listed : Array Bool) (l : List Nat), listed.size = ops.size → (∀ i, i < ops.size → (listed.getD i true = true ↔ i ∈ l)) → Region.ready .any ops listed = [] → ∀ i, i < ops.size → i ∈ l := by
    intro listed l hs hl hr i
    induction i using Nat.strongRecOn with
    | _ i ih =>
      intro hi
      cases hx : listed.getD i true with
      | true => exact (hl i hi).1 hx
      | false =>
        exfalso
        have : i ∈ Region.ready .any ops listed := ready_iff.2 ⟨ops[i], by simp [hi], hx, fun e he hb => by
          have h1 := hp.back i ops[i] e (by simp [hi]) he hb
          have h2 := (hl e.on (by omega)).2 (ih e.on h1 (by omega))
          simpa [Array.getD_eq_getD_getElem?, show e.on < listed.size by omega] using h2⟩
        rw [hr] at this
        simp at this
  induction fuel with
  | zero =>
    rintro listed a w hs hc (⟨l, hl, hlm, hcl, hsim⟩ | h2)
    · have hr : Region.ready .any ops listed = [] := by
        rw [List.eq_nil_iff_forall_not_mem]
        intro i hi
        obtain ⟨o, ho, h1, _⟩ := ready_iff.1 hi
        have := cnt_zero (by omega : cnt (fun i => !listed.getD i true) ops.size = 0) i (Array.getElem?_eq_some_iff.1 ho).1
        simp [h1] at this
      have hall := none_ready listed l hs hl hr
      have hmn : m = ops.size := by
        rcases Nat.lt_or_ge m ops.size with hlt | hge
        · exact absurd (hlm m (hall m hlt)) (by omega)
        · have := hp.le; omega
      exact two 0 listed a w hs hc ⟨m, Nat.le_refl _, hp.le, fun i hi => by rw [hl i hi]; exact ⟨hlm i, fun h => hall i hi⟩, turn l a w hlm (fun i hi => hall i (by omega)) hsim⟩
    · exact two 0 listed a w hs hc h2
  | succ fuel ih =>
    rintro listed a w hs hc (⟨l, hl, hlm, hcl, hsim⟩ | h2)
    · by_cases hfull : ∀ i, i < m → i ∈ l
      · exact two (fuel + 1) listed a w hs hc ⟨m, Nat.le_refl _, hp.le, fun i hi => by rw [hl i hi]; exact ⟨hlm i, fun h => hfull i h⟩, turn l a w hlm hfull hsim⟩
      · refine ⟨fun hr => absurd (fun i hi => none_ready listed l hs hl hr i (by have := hp.le; omega)) hfull, fun i hi => ?_⟩
        obtain ⟨o, ho, h1, h2⟩ := ready_iff.1 hi
        have hin : i < ops.size := (Array.getElem?_eq_some_iff.1 ho).1
        have hnl : i ∉ l := fun h => by rw [(hl i hin).2 h] at h1; cases h1
        have hdeps : ∀ k, dep D k i = true → k ∈ l := by
          intro k hk
          obtain ⟨e, he, hb, hke⟩ := hp.fix i o k ho hk
          have hen := hp.back i o e ho he hb
          have h3 := h2 e he hb
          have hel : e.on ∈ l := (hl e.on (by omega)).1 (by simpa [Array.getD_eq_getD_getElem?, show e.on < listed.size by omega] using h3)
          rcases hke with rfl | hke
          · exact hel
          · exact hcl e.on hel k hke
        have him : i < m := by
          rcases Nat.lt_or_ge i m with h | h
          · exact h
          · exfalso
            exact hfull fun j hj => hdeps j (hp.seq i j h hin (by omega))
        obtain ⟨o', d, ho', hd, hdn, heff, hborn, hclr⟩ := hg i him
        rw [ho] at ho'
        cases ho'
        have hda : dstAt ops i = d := by simp [dstAt, ho, hd]
        -- what it looks at is as in the order of the text
        have hlook : ∀ t ∈ o.looksAt ops, getT (stOf e (dstAt ops) s0 l).T t = getT (stOf e (dstAt ops) s0 (desc i)).T t := by
          intro t ht
          by_cases hj : ∃ j, j < m ∧ dstAt ops j = t
          · obtain ⟨j, hj, rfl⟩ := hj
            rcases hp.look i o _ j him ho ht hj rfl with rfl | ⟨hji, hdj⟩ | ⟨hij, hdi⟩
            · rw [getT_stOf_other fun k hk hd' => hnl (by rw [← hp.uniq k j (hlm k hk) hj hd']; exact hk), getT_stOf_other fun k hk hd' => by
                have := mem_desc.1 hk
                have := hp.uniq k j (by omega) hj hd'
                omega]
            · rw [getT_stOf_hit (hdeps j hdj) (fun k hk hd' => hp.uniq k j (hlm k hk) hj hd'), getT_stOf_hit (mem_desc.2 hji) (fun k hk hd' => hp.uniq k j (by have := mem_desc.1 hk; omega) hj hd')]
            · rw [getT_stOf_other fun k hk hd' => by
                have := hp.uniq k j (hlm k hk) hj hd'
                subst this
                exact hnl (hcl k hk i hdi), getT_stOf_other fun k hk hd' => by
                have := mem_desc.1 hk
                have := hp.uniq k j (by omega) hj hd'
                omega]
          · rw [getT_stOf_other fun k hk hd' => hj ⟨k, hlm k hk, hd'⟩, getT_stOf_other fun k hk hd' => hj ⟨k, by have := mem_desc.1 hk; omega, hd'⟩]
        have hmem : MLe (hideS (Zs.getD i []) (stOf e (dstAt ops) s0 (desc i))) (stOf e (dstAt ops) s0 l) := by
          intro q
          rw [getM_hide]
          by_cases hz : (Zs.getD i []).contains q = true
          · rw [if_pos hz]; exact .inl rfl
          rw [if_neg hz]
          by_cases hj : ∃ j, j < i ∧ dstAt ops j = q ∧ (e j).2.isSome = true
          · obtain ⟨j, hj, rfl, hsj⟩ := hj
            obtain ⟨r, hr⟩ := Option.isSome_iff_exists.1 hsj
            obtain ⟨_, _, _, _, _, _, hbj, _⟩ := hg j (by omega)
            have hjl : j ∈ l := hdeps j ((hp.born j i (by omega) him (hbj hsj).1 hj).resolve_right hz)
            right
            rw [getM_stOf_hit hr (mem_desc.2 hj) (fun k hk hd' => hp.uniq k j (by have := mem_desc.1 hk; omega) (by omega) hd'), getM_stOf_hit hr hjl (fun k hk hd' => hp.uniq k j (hlm k hk) (by omega) hd')]
          · have e1 : getM (stOf e (dstAt ops) s0 (desc i)).M q = getM s0.M q := getM_stOf_other fun k hk hsk hd' => hj ⟨k, mem_desc.1 hk, hd', hsk⟩
            rw [e1]
            by_cases hj2 : ∃ j, j ∈ l ∧ dstAt ops j = q ∧ (e j).2.isSome = true
            · obtain ⟨j, hjl, rfl, hsj⟩ := hj2
              left
              obtain ⟨o2, d2, ho2, hd2, _, _, hbj, _⟩ := hg j (hlm j hjl)
              have hda2 : dstAt ops j = d2 := by simp [dstAt, ho2, hd2]
              have hf := (hbj hsj).2
              simp only [StL.free, Bool.and_eq_true] at hf
              have h5 := Res.eq_dead hf.2.1
              rw [← hda2] at h5
              rwa [getM_stOf_other fun k hk hsk hd' => by
                have h6 := mem_desc.1 hk
                have := hp.uniq k j (by have := hlm j hjl; omega) (hlm j hjl) hd'
                omega] at h5
            · right
              exact getM_stOf_other fun k hk hsk hd' => hj2 ⟨k, hk, hd', hsk⟩
        have heff' := heff.move hmem (fun t ht => by rw [hideS_T]; exact hlook t ht)
        have hfree : (e i).2.isSome = true → (stOf e (dstAt ops) s0 l).free d = true := by
          intro hsi
          obtain ⟨hA, hf⟩ := hborn hsi
          have hclear : ∀ j ∈ l, i < j → PV.men d (e j).1 = false ∧ ∀ r, (e j).2 = some r → Res.men d r = false := by
            intro j hj hij
            have hz : (Zs.getD j []).contains d = true := by
              rcases hp.born i j him (hlm j hj) hA hij with h | h
              · exact absurd (hcl j hj i h) hnl
              · rwa [hda] at h
            obtain ⟨_, _, _, _, _, _, _, hcj⟩ := hg j (hlm j hj)
            have := List.all_eq_true.1 hcj d (by simpa using hz)
            rw [Bool.and_eq_true] at this
            refine ⟨by simpa using this.1, fun r hr => ?_⟩
            have h2 := this.2
            rw [hr] at h2
            simpa using h2
          simp only [StL.free, Bool.and_eq_true] at hf ⊢
          obtain ⟨⟨hf1, hf2⟩, hf3, hf6⟩ := hf
          rw [stOf_allT] at hf1
          rw [stOf_allM] at hf2
          have hne : ∀ j ∈ l, j ≠ i := fun j hj e => hnl (e ▸ hj)
          refine ⟨⟨stOf_allT.2 ⟨hf1.1, fun j hj => ?_⟩, stOf_allM.2 ⟨hf2.1, fun j hj r hr => ?_⟩⟩, ?_, hf6⟩
          · rcases Nat.lt_trichotomy j i with h | h | h
            · exact hf1.2 j (mem_desc.2 h)
            · exact absurd h (hne j hj)
            · simpa using (hclear j hj h).1
          · rcases Nat.lt_trichotomy j i with h | h | h
            · exact hf2.2 j (mem_desc.2 h) r hr
            · exact absurd h (hne j hj)
            · simpa using (hclear j hj h).2 r hr
          have h5 := Res.eq_dead hf3
          rw [← hda] at h5 ⊢
          rw [getM_stOf_other fun k hk hsk hd' => by
            have h6 := mem_desc.1 hk
            have := hp.uniq k i (by omega) him hd'
            omega] at h5
          rw [getM_stOf_other fun k hk hsk hd' => hne k hk (hp.uniq k i (hlm k hk) him hd'), h5]
          rfl
        have heq : (fun q r => q = (e i).1 ∧ r = (e i).2) = fun q' r' => q' = (e i).1 ∧ r' = (e i).2 := rfl
        refine effW_wpOp ho hd hdn hsim heff' hfree fun a' w' hsim' => ?_
        have hset : ∀ j, (listed.setIfInBounds i true).getD j true = (listed.getD j true || j == i) := by
          intro j
          simp only [Array.getD_eq_getD_getElem?, Array.getElem?_setIfInBounds]
          by_cases e : i = j
          · subst e; simp [show i < listed.size by omega]
          · have e' : (j == i) = false := by simp; omega
            simp [e, e']
        refine ih _ _ _ (by simpa using hs) ?_ (.inl ⟨i :: l, fun j hj => ?_, fun j hj => ?_, fun j hj k hk => ?_, ?_⟩)
        · have := cnt_one (p := fun i => !listed.getD i true) (p' := fun j => !(listed.setIfInBounds i true).getD j true) (i := i) (by simp [h1]) (fun j => by simp only [hset]; simp [bne]) hin
          omega
        · rw [hset, Bool.or_eq_true, hl j hj, List.mem_cons, beq_iff_eq]
          exact Or.comm
        · rcases List.mem_cons.1 hj with rfl | hj
          · exact him
          · exact hlm j hj
        · rcases List.mem_cons.1 hj with rfl | hj
          · exact List.mem_cons_of_mem _ (hdeps k hk)
          · exact List.mem_cons_of_mem _ (hcl j hj k hk)
        · simp only [stOf, hda]
          exact hsim'
    · exact two (fuel + 1) listed a w hs hc h2

/-- A region that draws its order. -/
theorem cw_drawZ {id m : Nat} {As : List Nat} {Zs : List (List Nat)} {s : StL} {Q : Exit → StL → Prop} (hm : P.follows .mixedOrders = true) (hok : drawOkZ ops m As Zs (depsOf ops) = true)
    (h : ∀ K : StL → Prop, (∀ s', Q .normal s' → K s') → DrawZ P n ops m As Zs 0 ops.toList s K) : CodeW P n (.region id ops true) s Q := by
  intro w0 F0 a w hs
  have hp := passesZ_of hok
  obtain ⟨e, _, hgood, hrest⟩ := drawZ_plan (P := P) (n := n) (ops := ops) hp.le m 0 (fun _ => (.undef, none)) (by omega) (by simpa [desc, stOf] using h _ fun s' hs' => hs')
  refine wp_region_any hm ?_
  have hs' : Sim w0 F0 n s a { w with drawn := w.drawn + 1 } := by
    obtain ⟨φ, fp, hx⟩ := hs
    exact ⟨φ, fp, hx.same rfl rfl rfl rfl⟩
  refine drawZ_any (w0 := w0) (F0 := F0) (K := fun s' => Q .normal s') hp (fun j hj => hgood j (Nat.zero_le _) hj) hrest (fun s' a' w' h1 h2 => ⟨s', h1, h2⟩) ops.size _ _ _ (by simp) ?_ (.inl ⟨[], fun i hi => ?_, by simp, by simp, hs'⟩)
  · have : ∀ k, cnt (fun i => !(Array.replicate ops.size false).getD i true) k ≤ k := by
      intro k
      induction k with
      | zero => simp [cnt]
      | succ k ih => simp only [cnt]; split <;> omega
    exact this _
  · simp [Array.getD_eq_getD_getElem?, hi]

end
section
variable {P : Program} {n : Nat}

/-- One operation more. -/
def DrawZL (P : Program) (n : Nat) (ops : Array Oper) (m : Nat) (As : List Nat) (Zs : List (List Nat)) (i : Nat) (l : List Oper) (s : StL) (K : StL → Prop) (wo : Wit (ops, As, Zs)) (wK : Wit (l, K)) : Prop := DrawZ P n ops m As Zs i l s K
@[simp ↓] theorem DrawZL_nil (ops : Array Oper) (m : Nat) (As : List Nat) (Zs : List (List Nat)) (i : Nat) (s : StL) (K : StL → Prop) (wo : Wit (ops, As, Zs)) (wK : Wit (([] : List Oper), K)) : DrawZL P n ops m As Zs i [] s K wo wK = K s := rfl
def drawZY (P : Program) (n : Nat) (ops : Array Oper) (m : Nat) (As : List Nat) (Zs : List (List Nat)) (i : Nat) (o : Oper) (l : List Oper) (s : StL) (K : StL → Prop) (wo : Wit (ops, As, Zs)) (wK : Wit (o, l, K)) (dst : Option Nat) (z : List Nat) : Prop :=
  match dst with
  | none => False
  | some d => d < n ∧ optS (some (hideS z s)) (fun s1 => condX (wantPV ops s1 o) (effX P s1 d o.op (fun q res => ((res.isSome = true → As.contains i = true ∧ s.free d = true) ∧ clearOf z q res = true) ∧ DrawZL P n ops m As Zs (i + 1) l (app1 d q res s) K ⟨⟩ ⟨⟩) ⟨⟩)
        (DrawZL P n ops m As Zs (i + 1) l (app1 d skipPV none s) K ⟨⟩ ⟨⟩) ⟨⟩ ⟨⟩) ⟨⟩
def drawZX (P : Program) (n : Nat) (ops : Array Oper) (m : Nat) (As : List Nat) (Zs : List (List Nat)) (i : Nat) (o : Oper) (l : List Oper) (s : StL) (K : StL → Prop) (wo : Wit (ops, As, Zs)) (wK : Wit (o, l, K)) (b : Bool) : Prop :=
  match b with
  | true => drawZY P n ops m As Zs i o l s K wo wK o.dst (Zs.getD i [])
  | false => RunG P n ops (o :: l) s K ⟨⟩ ⟨⟩
theorem clearOf_skip (z : List Nat) : clearOf z skipPV none = true := by
  simp [clearOf, PV.men]
@[simp ↓] theorem DrawZL_cons (ops : Array Oper) (m : Nat) (As : List Nat) (Zs : List (List Nat)) (i : Nat) (o : Oper) (l : List Oper) (s : StL) (K : StL → Prop) (wo : Wit (ops, As, Zs)) (wK : Wit (o :: l, K)) :
    DrawZL P n ops m As Zs i (o :: l) s K wo wK = drawZX P n ops m As Zs i o l s K ⟨⟩ ⟨⟩ (decide (i < m)) := by
  show DrawZ P n ops m As Zs i (o :: l) s K = _
  conv => lhs; unfold DrawZ
  by_cases h : i < m
  · rw [if_pos h, decide_eq_true h]
    show _ = drawZY P n ops m As Zs i o l s K ⟨⟩ ⟨⟩ o.dst (Zs.getD i [])
    unfold drawZY
    cases o.dst with
    | none => rfl
    | some d =>
      simp only [EffW_eq, optS_some]
      cases wantPV ops (hideS (Zs.getD i []) s) o with
      | none => rfl
      | some b =>
        cases b
        · simp only [condX_false, Option.isSome_none, Bool.false_eq_true, false_implies, true_and, clearOf_skip]
          rfl
        · simp only [condX_true]
          rfl
  · rw [if_neg h, decide_eq_false h]
    rfl
@[simp] theorem drawZX_true (ops : Array Oper) (m : Nat) (As : List Nat) (Zs : List (List Nat)) (i : Nat) (o : Oper) (l : List Oper) (s : StL) (K : StL → Prop) (wo : Wit (ops, As, Zs)) (wK : Wit (o, l, K)) : drawZX P n ops m As Zs i o l s K wo wK true = drawZY P n ops m As Zs i o l s K wo wK o.dst (Zs.getD i []) := rfl
@[simp] theorem drawZX_false (ops : Array Oper) (m : Nat) (As : List Nat) (Zs : List (List Nat)) (i : Nat) (o : Oper) (l : List Oper) (s : StL) (K : StL → Prop) (wo : Wit (ops, As, Zs)) (wK : Wit (o, l, K)) : drawZX P n ops m As Zs i o l s K wo wK false = RunG P n ops (o :: l) s K ⟨⟩ ⟨⟩ := rfl
@[simp] theorem drawZY_some (ops : Array Oper) (m : Nat) (As : List Nat) (Zs : List (List Nat)) (i : Nat) (o : Oper) (l : List Oper) (s : StL) (K : StL → Prop) (wo : Wit (ops, As, Zs)) (wK : Wit (o, l, K)) (d : Nat) (z : List Nat) : drawZY P n ops m As Zs i o l s K wo wK (some d) z =
  (d < n ∧ optS (some (hideS z s)) (fun s1 => condX (wantPV ops s1 o) (effX P s1 d o.op (fun q res => ((res.isSome = true → As.contains i = true ∧ s.free d = true) ∧ clearOf z q res = true) ∧ DrawZL P n ops m As Zs (i + 1) l (app1 d q res s) K ⟨⟩ ⟨⟩) ⟨⟩)
        (DrawZL P n ops m As Zs (i + 1) l (app1 d skipPV none s) K ⟨⟩ ⟨⟩) ⟨⟩ ⟨⟩) ⟨⟩) := rfl
theorem drawZ_mono {ops : Array Oper} {m : Nat} {As : List Nat} {Zs : List (List Nat)} : ∀ {l : List Oper} {i : Nat} {s : StL} {K K' : StL → Prop}, DrawZ P n ops m As Zs i l s K → (∀ s, K s → K' s) → DrawZ P n ops m As Zs i l s K'
  | [], i, s, K, K', h, hK => hK _ h
  | o :: l, i, s, K, K', h, hK => by
    unfold DrawZ at h ⊢
    by_cases hb : i < m
    · rw [if_pos hb] at h ⊢
      cases hd : o.dst with
      | none => rw [hd] at h; exact h
      | some d =>
        rw [hd] at h
        simp only [EffW_eq] at h ⊢
        exact ⟨h.1, condX_mono h.2 (fun h => effX_mono h fun q r h => ⟨h.1, drawZ_mono h.2 hK⟩) (fun h => ⟨h.1, drawZ_mono h.2 hK⟩)⟩
    · rw [if_neg hb] at h ⊢
      exact runW_mono h hK
/-- A region that draws, with memory made in parts that do not wait for each other: Zs: for each operation the names that may not be there yet. -/
theorem wk_drawZ {id : Nat} (m : Nat) (As : List Nat) (Zs : List (List Nat)) {l : List Oper} {s : StL} {Q : Exit → StL → Prop} {wo : Wit l.toArray} {wQ : Wit Q} (hm : P.follows .mixedOrders = true) (hok : drawOkZ l.toArray m As Zs (depsOf l.toArray) = true)
    (h : DrawZL P n l.toArray m As Zs 0 l s (NormK Q) ⟨⟩ ⟨⟩) : DrawG P n id l.toArray s Q wo wQ := cw_drawZ hm hok fun K hK => drawZ_mono h hK
attribute [simp] clearOf
end
end Go.PS
