/- PS19: whatever order is drawn, the region comes to what the text's order comes to. -/
import Derived.Test.YtmneioafbkknhaaPS18
set_option linter.unusedVariables false
set_option linter.unusedSimpArgs false
namespace Go.PS
open Go Go.RowKit

theorem foldl_bits (D : List Nat) (k : Nat) : ∀ (es : List Edge) (m0 : Nat), (es.foldl (fun m e => if Region.binds .any e then m ||| 2 ^ e.on ||| D.getD e.on 0 else m) m0).testBit k = true →
    m0.testBit k = true ∨ ∃ e ∈ es, Region.binds .any e = true ∧ (e.on = k ∨ dep D k e.on = true)
  | [], m0, h => .inl h
  | e :: es, m0, h => by
    simp only [List.foldl_cons] at h
    rcases foldl_bits D k es _ h with h1 | ⟨e', he', hb, hk⟩
    · split at h1
      · rename_i hb
        simp only [Nat.testBit_or, Bool.or_eq_true, Nat.testBit_two_pow, decide_eq_true_eq] at h1
        rcases h1 with (h1 | h1) | h1
        · exact .inl h1
        · exact .inr ⟨e, by simp, hb, .inl h1⟩
        · exact .inr ⟨e, by simp, hb, .inr h1⟩
      · exact .inl h1
    · exact .inr ⟨e', List.mem_cons_of_mem _ he', hb, hk⟩

/-- What is known of a region that passes. -/
structure Passes (ops : Array Oper) (m : Nat) (As : List Nat) (D : List Nat) : Prop where
  le : m ≤ ops.size
  back : ∀ i o e, ops[i]? = some o → e ∈ o.after.toList → Region.binds .any e = true → e.on < i
  fix : ∀ i o k, ops[i]? = some o → dep D k i = true → ∃ e ∈ o.after.toList, Region.binds .any e = true ∧ (e.on = k ∨ dep D k e.on = true)
  look : ∀ i o t j, i < m → ops[i]? = some o → t ∈ o.looksAt ops → j < m → dstAt ops j = t → j = i ∨ (j < i ∧ dep D j i = true) ∨ (i < j ∧ dep D i j = true)
  uniq : ∀ i j, i < m → j < m → dstAt ops i = dstAt ops j → i = j
  born : ∀ i j, i < m → j < m → As.contains i = true → i < j → dep D i j = true
  seq : ∀ i j, m ≤ i → i < ops.size → j < i → dep D j i = true

theorem passes_of {ops : Array Oper} {m : Nat} {As D : List Nat} (h : drawOk ops m As D = true) : Passes ops m As D := by
  simp only [drawOk, Bool.and_eq_true, decide_eq_true_eq, List.all_eq_true, List.mem_range] at h
  obtain ⟨hle, hall⟩ := h
  have hat : ∀ i o, ops[i]? = some o → (∀ e ∈ o.after.toList, Region.binds .any e = true → e.on < i) ∧ D.getD i 0 = maskOf D o ∧
      (i < m → (∀ t ∈ o.looksAt ops, ∀ j, j < m → dstAt ops j = t → j = i ∨ (j < i ∧ dep D j i = true) ∨ (i < j ∧ dep D i j = true)) ∧ (∀ j, j < i → dstAt ops j ≠ dstAt ops i) ∧ (As.contains i = true → ∀ j, j < m → i < j → dep D i j = true)) ∧
      (m ≤ i → ∀ j, j < i → dep D j i = true) := by
    intro i o hi
    have hlt : i < ops.size := (Array.getElem?_eq_some_iff.1 hi).1
    have := hall i hlt
    rw [hi] at this
    simp only [Bool.and_eq_true, beq_iff_eq] at this
    obtain ⟨⟨h1, h2⟩, h3⟩ := this
    refine ⟨fun e he hb => ?_, h2, fun him => ?_, fun him => ?_⟩
    · have := List.all_eq_true.1 h1 e he
      simpa [hb] using this
    · rw [if_pos him] at h3
      simp only [Bool.and_eq_true] at h3
      obtain ⟨⟨⟨_, h4⟩, h5⟩, h6⟩ := h3
      refine ⟨fun t ht j hj hd => ?_, fun j hj => ?_, fun hA j hj hij => ?_⟩
      · have := List.all_eq_true.1 (List.all_eq_true.1 h4 t ht) j (List.mem_range.2 hj)
        simp only [Bool.or_eq_true, bne_iff_ne, ne_eq, beq_iff_eq] at this
        rcases this with (h7 | h7) | h7
        · exact absurd hd h7
        · exact .inl h7
        · by_cases hji : j < i
          · rw [if_pos hji] at h7; exact .inr (.inl ⟨hji, h7⟩)
          · rw [if_neg hji] at h7
            by_cases e : j = i
            · exact .inl e
            · exact .inr (.inr ⟨by omega, h7⟩)
      · have := List.all_eq_true.1 h5 j (List.mem_range.2 hj)
        simpa using this
      · simp only [hA, Bool.not_true, Bool.false_or] at h6
        have := List.all_eq_true.1 h6 j (List.mem_range.2 hj)
        simp only [Bool.or_eq_true, decide_eq_true_eq] at this
        exact this.resolve_left (by omega)
    · rw [if_neg (by omega)] at h3
      exact fun j hj => List.all_eq_true.1 h3 j (List.mem_range.2 hj)
  have hget : ∀ i, i < ops.size → ∃ o, ops[i]? = some o := fun i hi => ⟨ops[i], by simp [hi]⟩
  refine ⟨hle, fun i o e hi he hb => (hat i o hi).1 e he hb, fun i o k hi hk => ?_, fun i o t j him hi ht hj hd => ((hat i o hi).2.2.1 him).1 t ht j hj hd, fun i j hi hj hd => ?_, fun i j hi hj hA hij => ?_, fun i j him hi hj => ?_⟩
  · have h2 := (hat i o hi).2.1
    unfold dep at hk
    rw [h2] at hk
    exact (foldl_bits D k o.after.toList 0 hk).resolve_left (by simp)
  · obtain ⟨o, ho⟩ := hget i (by omega)
    obtain ⟨o', ho'⟩ := hget j (by omega)
    rcases Nat.lt_trichotomy i j with h1 | h1 | h1
    · exact absurd hd (((hat j o' ho').2.2.1 hj).2.1 i h1)
    · exact h1
    · exact absurd hd.symm (((hat i o ho).2.2.1 hi).2.1 j h1)
  · obtain ⟨o, ho⟩ := hget i (by omega)
    exact ((hat i o ho).2.2.1 hi).2.2 hA j hj hij
  · obtain ⟨o, ho⟩ := hget i hi
    exact (hat i o ho).2.2.2 him j hj

section
variable {e : Nat → PV × Option Res} {dst : Nat → Nat} {s0 : StL}

theorem getT_stOf_other {t : Nat} : ∀ {l : List Nat}, (∀ j ∈ l, dst j ≠ t) → getT (stOf e dst s0 l).T t = getT s0.T t
  | [], _ => rfl
  | j :: l, h => by
    simp only [stOf, app1, getT]
    rw [if_neg (h j (by simp)), getT_stOf_other fun k hk => h k (List.mem_cons_of_mem _ hk)]

theorem getT_stOf_hit {j : Nat} : ∀ {l : List Nat}, j ∈ l → (∀ k ∈ l, dst k = dst j → k = j) → getT (stOf e dst s0 l).T (dst j) = (e j).1
  | [], h, _ => by simp at h
  | k :: l, h, hu => by
    simp only [stOf, app1, getT]
    by_cases ek : dst k = dst j
    · rw [if_pos ek, hu k (by simp) ek]
    · rw [if_neg ek]
      have hj : j ∈ l := by
        rcases List.mem_cons.1 h with rfl | h
        · exact absurd rfl ek
        · exact h
      exact getT_stOf_hit hj fun i hi => hu i (List.mem_cons_of_mem _ hi)

theorem getM_stOf_other {t : Nat} : ∀ {l : List Nat}, (∀ j ∈ l, (e j).2.isSome = true → dst j ≠ t) → getM (stOf e dst s0 l).M t = getM s0.M t
  | [], _ => rfl
  | j :: l, h => by
    have ih := getM_stOf_other (l := l) fun k hk => h k (List.mem_cons_of_mem _ hk)
    simp only [stOf, app1]
    cases hr : (e j).2 with
    | none => exact ih
    | some r =>
      simp only [getM]
      rw [if_neg (h j (by simp) (by rw [hr]; rfl)), ih]

theorem getM_stOf_hit {j : Nat} {r : Res} (hr : (e j).2 = some r) : ∀ {l : List Nat}, j ∈ l → (∀ k ∈ l, dst k = dst j → k = j) → getM (stOf e dst s0 l).M (dst j) = r
  | [], h, _ => by simp at h
  | k :: l, h, hu => by
    have hu' : ∀ i ∈ l, dst i = dst j → i = j := fun i hi => hu i (List.mem_cons_of_mem _ hi)
    simp only [stOf, app1]
    by_cases ek : dst k = dst j
    · have := hu k (by simp) ek
      subst this
      rw [hr]
      simp [getM]
    · have hj : j ∈ l := by
        rcases List.mem_cons.1 h with rfl | h
        · exact absurd rfl ek
        · exact h
      cases hk : (e k).2 with
      | none => exact getM_stOf_hit hr hj hu'
      | some r' =>
        simp only [getM]
        rw [if_neg ek]
        exact getM_stOf_hit hr hj hu'

theorem stOf_allT {p : Nat × PV → Bool} : ∀ {l : List Nat}, (stOf e dst s0 l).T.all p = true ↔ s0.T.all p = true ∧ ∀ j ∈ l, p (dst j, (e j).1) = true
  | [] => by simp [stOf]
  | j :: l => by
    have ih := stOf_allT (p := p) (l := l)
    simp only [stOf, app1, List.all_cons, Bool.and_eq_true, ih, List.mem_cons]
    constructor
    · rintro ⟨h1, h2, h3⟩
      exact ⟨h2, fun k hk => by rcases hk with rfl | hk; exact h1; exact h3 k hk⟩
    · rintro ⟨h1, h2⟩
      exact ⟨h2 j (.inl rfl), h1, fun k hk => h2 k (.inr hk)⟩

theorem stOf_allM {p : Nat × Res → Bool} : ∀ {l : List Nat}, (stOf e dst s0 l).M.all p = true ↔ s0.M.all p = true ∧ ∀ j ∈ l, ∀ r, (e j).2 = some r → p (dst j, r) = true
  | [] => by simp [stOf]
  | j :: l => by
    have ih := stOf_allM (p := p) (l := l)
    simp only [stOf, app1]
    cases hr : (e j).2 with
    | none =>
      simp only [ih, List.mem_cons]
      constructor
      · rintro ⟨h2, h3⟩
        exact ⟨h2, fun k hk r hkr => by
          rcases hk with rfl | hk
          · rw [hr] at hkr; cases hkr
          · exact h3 k hk r hkr⟩
      · rintro ⟨h1, h2⟩
        exact ⟨h1, fun k hk => h2 k (.inr hk)⟩
    | some r0 =>
      simp only [List.all_cons, Bool.and_eq_true, ih, List.mem_cons]
      constructor
      · rintro ⟨h1, h2, h3⟩
        exact ⟨h2, fun k hk r hkr => by
          rcases hk with rfl | hk
          · rw [hr] at hkr; cases hkr; exact h1
          · exact h3 k hk r hkr⟩
      · rintro ⟨h1, h2⟩
        exact ⟨h2 j (.inl rfl) r0 hr, h1, fun k hk => h2 k (.inr hk)⟩

end

def cnt (p : Nat → Bool) : Nat → Nat
  | 0 => 0
  | n + 1 => cnt p n + if p n then 1 else 0

theorem cnt_zero {p : Nat → Bool} : ∀ {n : Nat}, cnt p n = 0 → ∀ i, i < n → p i = false
  | 0, _, i, hi => by omega
  | n + 1, h, i, hi => by
    simp only [cnt] at h
    by_cases e : i = n
    · subst e
      cases hp : p i with
      | false => rfl
      | true => rw [hp] at h; simp at h
    · exact cnt_zero (n := n) (by omega) i (by omega)

theorem cnt_one {p p' : Nat → Bool} {i : Nat} (hi : p i = true) (hp : ∀ j, p' j = (p j && j != i)) : ∀ {n : Nat}, i < n → cnt p n = cnt p' n + 1
  | 0, h => by omega
  | n + 1, h => by
    simp only [cnt]
    by_cases e : i = n
    · subst e
      have : ∀ m, m ≤ i → cnt p' m = cnt p m := by
        intro m
        induction m with
        | zero => intro _; rfl
        | succ m ih =>
          intro hm
          simp only [cnt]
          rw [ih (by omega), hp m]
          have : (m != i) = true := by simp; omega
          simp [this]
      rw [this i (Nat.le_refl _), hp i, hi]
      simp
    · rw [cnt_one hi hp (n := n) (by omega), hp n]
      have : (n != i) = true := by simp; omega
      simp only [this, Bool.and_true]
      omega

section
variable {P : Program} {n : Nat} {ops : Array Oper} {w0 : Base} {F0 : Nat → Prop}

theorem ready_iff {listed : Array Bool} {i : Nat} : i ∈ Region.ready .any ops listed ↔ ∃ o, ops[i]? = some o ∧ listed.getD i true = false ∧ ∀ e ∈ o.after.toList, Region.binds .any e = true → listed.getD e.on false = true := by
  simp only [Region.ready, List.mem_filter, List.mem_range, Bool.and_eq_true, Bool.not_eq_true']
  constructor
  · rintro ⟨hi, h1, h2⟩
    refine ⟨ops[i], by simp [hi], h1, fun e he hb => ?_⟩
    simp only [hi, Array.getElem?_eq_getElem, Option.map_some, Option.getD_some, Array.all_eq_true'] at h2
    have := h2 e (by simpa using he)
    simpa [hb] using this
  · rintro ⟨o, ho, h1, h2⟩
    refine ⟨(Array.getElem?_eq_some_iff.1 ho).1, h1, ?_⟩
    rw [ho]
    simp only [Option.map_some, Option.getD_some, Array.all_eq_true']
    intro e he
    cases hb : Region.binds .any e with
    | false => simp
    | true => simp [h2 e (by simpa using he) hb]

/-- The run of a region in any order: what has been done is what the plan says. -/
theorem draw_any {m : Nat} {As D : List Nat} (hp : Passes ops m As D) {e : Nat → PV × Option Res} {s0 : StL} {K : StL → Prop} {Q : Exit → Act → World → Prop} (hg : ∀ j, j < m → GoodAt P n ops As e s0 j)
    (hrest : RunW P n ops (ops.toList.drop m) (stOf e (dstAt ops) s0 (desc m)) K) (hK : ∀ s' a' w', K s' → Sim w0 F0 n s' a' w' → Q .normal a' w') :
    ∀ (fuel : Nat) (listed : Array Bool) (a : Act) (w : World), listed.size = ops.size → cnt (fun i => !listed.getD i true) ops.size ≤ fuel →
      ((∃ l : List Nat, (∀ i, i < ops.size → (listed.getD i true = true ↔ i ∈ l)) ∧ (∀ i ∈ l, i < m) ∧ (∀ i ∈ l, ∀ k, dep D k i = true → k ∈ l) ∧ Sim w0 F0 n (stOf e (dstAt ops) s0 l) a w) ∨
       (∃ k, m ≤ k ∧ k ≤ ops.size ∧ (∀ i, i < ops.size → (listed.getD i true = true ↔ i < k)) ∧ wpList P ops Q (ops.toList.drop k) a w)) →
      wpAny P .any ops Q fuel listed a w := by
  -- the second half: one after the other
  have two : ∀ (fuel : Nat) (listed : Array Bool) (a : Act) (w : World), listed.size = ops.size → cnt (fun i => !listed.getD i true) ops.size ≤ fuel →
      (∃ k, m ≤ k ∧ k ≤ ops.size ∧ (∀ i, i < ops.size → (listed.getD i true = true ↔ i < k)) ∧ wpList P ops Q (ops.toList.drop k) a w) → wpAny P .any ops Q fuel listed a w := by
    intro fuel
    have hend : ∀ (listed : Array Bool) (a : Act) (w : World) (k : Nat), listed.size = ops.size → m ≤ k → k ≤ ops.size → (∀ i, i < ops.size → (listed.getD i true = true ↔ i < k)) → wpList P ops Q (ops.toList.drop k) a w →
        Region.ready .any ops listed = [] → Q .normal a w := by
      intro listed a w k hs hmk hk hl hw hr
      have hkn : k = ops.size := by
        rcases Nat.lt_or_ge k ops.size with hlt | hge
        · exfalso
          have : k ∈ Region.ready .any ops listed := ready_iff.2 ⟨ops[k], by simp [hlt], by
            cases hx : listed.getD k true with
            | false => rfl
            | true => exact absurd ((hl k hlt).1 hx) (by omega), fun e he hb => by
            have := hp.back k ops[k] e (by simp [hlt]) he hb
            have h2 := (hl e.on (by omega)).2 this
            simpa [Array.getD_eq_getD_getElem?, show e.on < listed.size by omega] using h2⟩
          rw [hr] at this
          simp at this
        · omega
      rw [hkn, List.drop_of_length_le (by simp)] at hw
      exact hw
    induction fuel with
    | zero =>
      rintro listed a w hs hc ⟨k, hmk, hk, hl, hw⟩
      have hr : Region.ready .any ops listed = [] := by
        rw [List.eq_nil_iff_forall_not_mem]
        intro i hi
        obtain ⟨o, ho, h1, _⟩ := ready_iff.1 hi
        have := cnt_zero (by omega : cnt (fun i => !listed.getD i true) ops.size = 0) i (Array.getElem?_eq_some_iff.1 ho).1
        simp [h1] at this
      exact ⟨hr, hend listed a w k hs hmk hk hl hw hr⟩
    | succ fuel ih =>
      rintro listed a w hs hc ⟨k, hmk, hk, hl, hw⟩
      refine ⟨fun hr => hend listed a w k hs hmk hk hl hw hr, fun i hi => ?_⟩
      obtain ⟨o, ho, h1, h2⟩ := ready_iff.1 hi
      have hin : i < ops.size := (Array.getElem?_eq_some_iff.1 ho).1
      have hik : i = k := by
        have hge : ¬ i < k := fun h => by rw [(hl i hin).2 h] at h1; cases h1
        rcases Nat.lt_or_ge k i with hlt | hge'
        · exfalso
          have hd := hp.seq i k (by omega) hin hlt
          -- its predecessors are listed, all the way
          have : ∀ i, i < ops.size → (∀ o, ops[i]? = some o → ∀ e ∈ o.after.toList, Region.binds .any e = true → e.on < k) → dep D k i = true → False := by
            intro i hi hb hd
            obtain ⟨e, he, hbe, hke⟩ := hp.fix i ops[i] k (by simp [hi]) hd
            have he1 := hb ops[i] (by simp [hi]) e he hbe
            rcases hke with rfl | hke
            · omega
            · -- an edge to something below k that waits for k
              have : ∀ j, j < k → dep D k j = true → False := by
                intro j
                induction j using Nat.strongRecOn with
                | _ j ihj =>
                  intro hj hdj
                  have hjn : j < ops.size := by omega
                  obtain ⟨e, he, hbe, hke⟩ := hp.fix j ops[j] k (by simp [hjn]) hdj
                  have := hp.back j ops[j] e (by simp [hjn]) he hbe
                  rcases hke with rfl | hke
                  · omega
                  · exact ihj e.on this (by omega) hke
              exact this e.on he1 hke
          refine this i hin (fun o' ho' e he hb => ?_) hd
          rw [ho] at ho'
          cases ho'
          have h3 := h2 e he hb
          have hen : e.on < ops.size := by have := hp.back i o e ho he hb; omega
          exact (hl e.on hen).1 (by simpa [Array.getD_eq_getD_getElem?, show e.on < listed.size by omega] using h3)
        · omega
      subst hik
      have hdrop : ops.toList.drop i = o :: ops.toList.drop (i + 1) := by
        rw [List.drop_eq_getElem_cons (by simpa using hin)]
        have : ops[i] = o := by simpa [hin] using ho
        simp [this]
      rw [hdrop] at hw
      have hset : ∀ j, (listed.setIfInBounds i true).getD j true = (listed.getD j true || j == i) := by
        intro j
        simp only [Array.getD_eq_getD_getElem?, Array.getElem?_setIfInBounds]
        by_cases e : i = j
        · subst e; simp [show i < listed.size by omega]
        · have e' : (j == i) = false := by simp; omega
          simp [e, e']
      have next : ∀ a' w', wpList P ops Q (ops.toList.drop (i + 1)) a' w' → wpAny P .any ops Q fuel (listed.setIfInBounds i true) a' w' := by
        intro a' w' hw'
        refine ih _ _ _ (by simpa using hs) ?_ ⟨i + 1, by omega, by omega, fun j hj => ?_, hw'⟩
        · have := cnt_one (p := fun i => !listed.getD i true) (p' := fun j => !(listed.setIfInBounds i true).getD j true) (i := i) (by simp [h1]) (fun j => by simp only [hset]; simp [bne]) hin
          omega
        · rw [hset]
          simp only [Bool.or_eq_true, beq_iff_eq]
          rw [hl j hj]
          omega
      unfold wpOp
      rw [ho]
      simp only [wpList] at hw ⊢
      split
      · rename_i hw1
        rw [if_pos hw1] at hw
        exact hw.imp (Oper.wp_mono next) id
      · rename_i hw1
        rw [if_neg hw1] at hw
        exact next _ _ hw
  intro fuel
  -- at the turn
  have turn : ∀ (l : List Nat) (a : Act) (w : World), (∀ i ∈ l, i < m) → (∀ i, i < m → i ∈ l) → Sim w0 F0 n (stOf e (dstAt ops) s0 l) a w → wpList P ops Q (ops.toList.drop m) a w := by
    intro l a w h1 h2 h3
    refine runW_wp _ (h3.weak ⟨fun t => .inl ?_, fun q => .inl ?_⟩) hrest hK
    · by_cases ht : ∃ j, j < m ∧ dstAt ops j = t
      · obtain ⟨j, hj, rfl⟩ := ht
        rw [getT_stOf_hit (mem_desc.2 hj) (fun k hk hd => hp.uniq k j (mem_desc.1 hk) hj hd), getT_stOf_hit (h2 j hj) (fun k hk hd => hp.uniq k j (h1 k hk) hj hd)]
      · rw [getT_stOf_other fun j hj hd => ht ⟨j, mem_desc.1 hj, hd⟩, getT_stOf_other fun j hj hd => ht ⟨j, h1 j hj, hd⟩]
    · by_cases ht : ∃ j, j < m ∧ dstAt ops j = q ∧ (e j).2.isSome = true
      · obtain ⟨j, hj, rfl, hs⟩ := ht
        obtain ⟨r, hr⟩ := Option.isSome_iff_exists.1 hs
        rw [getM_stOf_hit hr (mem_desc.2 hj) (fun k hk hd => hp.uniq k j (mem_desc.1 hk) hj hd), getM_stOf_hit hr (h2 j hj) (fun k hk hd => hp.uniq k j (h1 k hk) hj hd)]
      · rw [getM_stOf_other fun j hj hs hd => ht ⟨j, mem_desc.1 hj, hd, hs⟩, getM_stOf_other fun j hj hs hd => ht ⟨j, h1 j hj, hd, hs⟩]
  -- where nothing is ready all has been done
  have none_ready : ∀ (listed : Array Bool) (l : List Nat), listed.size = ops.size → (∀ i, i < ops.size → (listed.getD i true = true ↔ i ∈ l)) → Region.ready .any ops listed = [] → ∀ i, i < ops.size → i ∈ l := by
    intro listed l hs hl hr i
    induction i using Nat.strongRecOn with
    | _ i ih =>
      intro hi
      cases hx : listed.getD i true with
      | true => exact (hl i hi).1 hx
      | false =>
        exfalso
        have : i ∈ Region.ready .any ops listed := ready_iff.2 ⟨ops[i], by simp [hi], hx, fun e he hb => by
          have h1 := hp.back i ops[i] e (by simp [hi]) he hb
          have h2 := (hl e.on (by omega)).2 (ih e.on h1 (by omega))
          simpa [Array.getD_eq_getD_getElem?, show e.on < listed.size by omega] using h2⟩
        rw [hr] at this
        simp at this
  induction fuel with
  | zero =>
    rintro listed a w hs hc (⟨l, hl, hlm, hcl, hsim⟩ | h2)
    · have hr : Region.ready .any ops listed = [] := by
        rw [List.eq_nil_iff_forall_not_mem]
        intro i hi
        obtain ⟨o, ho, h1, _⟩ := ready_iff.1 hi
        have := cnt_zero (by omega : cnt (fun i => !listed.getD i true) ops.size = 0) i (Array.getElem?_eq_some_iff.1 ho).1
        simp [h1] at this
      have hall := none_ready listed l hs hl hr
      have hmn : m = ops.size := by
        rcases Nat.lt_or_ge m ops.size with hlt | hge
        · exact absurd (hlm m (hall m hlt)) (by omega)
        · have := hp.le; omega
      exact two 0 listed a w hs hc ⟨m, Nat.le_refl _, hp.le, fun i hi => by rw [hl i hi]; exact ⟨hlm i, fun h => hall i hi⟩, turn l a w hlm (fun i hi => hall i (by omega)) hsim⟩
    · exact two 0 listed a w hs hc h2
  | succ fuel ih =>
    rintro listed a w hs hc (⟨l, hl, hlm, hcl, hsim⟩ | h2)
    · by_cases hfull : ∀ i, i < m → i ∈ l
      · exact two (fuel + 1) listed a w hs hc ⟨m, Nat.le_refl _, hp.le, fun i hi => by rw [hl i hi]; exact ⟨hlm i, fun h => hfull i h⟩, turn l a w hlm hfull hsim⟩
      · refine ⟨fun hr => absurd (fun i hi => none_ready listed l hs hl hr i (by have := hp.le; omega)) hfull, fun i hi => ?_⟩
        obtain ⟨o, ho, h1, h2⟩ := ready_iff.1 hi
        have hin : i < ops.size := (Array.getElem?_eq_some_iff.1 ho).1
        have hnl : i ∉ l := fun h => by rw [(hl i hin).2 h] at h1; cases h1
        have hdeps : ∀ k, dep D k i = true → k ∈ l := by
          intro k hk
          obtain ⟨e, he, hb, hke⟩ := hp.fix i o k ho hk
          have hen := hp.back i o e ho he hb
          have h3 := h2 e he hb
          have hel : e.on ∈ l := (hl e.on (by omega)).1 (by simpa [Array.getD_eq_getD_getElem?, show e.on < listed.size by omega] using h3)
          rcases hke with rfl | hke
          · exact hel
          · exact hcl e.on hel k hke
        have him : i < m := by
          rcases Nat.lt_or_ge i m with h | h
          · exact h
          · exfalso
            exact hfull fun j hj => hdeps j (hp.seq i j h hin (by omega))
        obtain ⟨o', d, ho', hd, hdn, heff, hborn⟩ := hg i him
        rw [ho] at ho'
        cases ho'
        have hda : dstAt ops i = d := by simp [dstAt, ho, hd]
        -- what it looks at is as in the order of the text
        have hlook : ∀ t ∈ o.looksAt ops, getT (stOf e (dstAt ops) s0 l).T t = getT (stOf e (dstAt ops) s0 (desc i)).T t := by
          intro t ht
          by_cases hj : ∃ j, j < m ∧ dstAt ops j = t
          · obtain ⟨j, hj, rfl⟩ := hj
            rcases hp.look i o _ j him ho ht hj rfl with rfl | ⟨hji, hdj⟩ | ⟨hij, hdi⟩
            · rw [getT_stOf_other fun k hk hd' => hnl (by rw [← hp.uniq k j (hlm k hk) hj hd']; exact hk), getT_stOf_other fun k hk hd' => by
                have := mem_desc.1 hk
                have := hp.uniq k j (by omega) hj hd'
                omega]
            · rw [getT_stOf_hit (hdeps j hdj) (fun k hk hd' => hp.uniq k j (hlm k hk) hj hd'), getT_stOf_hit (mem_desc.2 hji) (fun k hk hd' => hp.uniq k j (by have := mem_desc.1 hk; omega) hj hd')]
            · rw [getT_stOf_other fun k hk hd' => by
                have := hp.uniq k j (hlm k hk) hj hd'
                subst this
                exact hnl (hcl k hk i hdi), getT_stOf_other fun k hk hd' => by
                have := mem_desc.1 hk
                have := hp.uniq k j (by omega) hj hd'
                omega]
          · rw [getT_stOf_other fun k hk hd' => hj ⟨k, hlm k hk, hd'⟩, getT_stOf_other fun k hk hd' => hj ⟨k, by have := mem_desc.1 hk; omega, hd'⟩]
        have hmem : MLe (stOf e (dstAt ops) s0 (desc i)) (stOf e (dstAt ops) s0 l) := by
          intro q
          by_cases hj : ∃ j, j < i ∧ dstAt ops j = q ∧ (e j).2.isSome = true
          · obtain ⟨j, hj, rfl, hsj⟩ := hj
            obtain ⟨r, hr⟩ := Option.isSome_iff_exists.1 hsj
            obtain ⟨_, _, _, _, _, _, hbj⟩ := hg j (by omega)
            have hjl : j ∈ l := hdeps j (hp.born j i (by omega) him (hbj hsj).1 hj)
            right
            rw [getM_stOf_hit hr (mem_desc.2 hj) (fun k hk hd' => hp.uniq k j (by have := mem_desc.1 hk; omega) (by omega) hd'), getM_stOf_hit hr hjl (fun k hk hd' => hp.uniq k j (hlm k hk) (by omega) hd')]
          · have e1 : getM (stOf e (dstAt ops) s0 (desc i)).M q = getM s0.M q := getM_stOf_other fun k hk hsk hd' => hj ⟨k, mem_desc.1 hk, hd', hsk⟩
            rw [e1]
            by_cases hj2 : ∃ j, j ∈ l ∧ dstAt ops j = q ∧ (e j).2.isSome = true
            · obtain ⟨j, hjl, rfl, hsj⟩ := hj2
              left
              obtain ⟨o2, d2, ho2, hd2, _, _, hbj⟩ := hg j (hlm j hjl)
              have hda2 : dstAt ops j = d2 := by simp [dstAt, ho2, hd2]
              have hf := (hbj hsj).2
              simp only [StL.free, Bool.and_eq_true] at hf
              have h5 := Res.eq_dead hf.2.1
              rw [← hda2] at h5
              rwa [getM_stOf_other fun k hk hsk hd' => by
                have h6 := mem_desc.1 hk
                have := hp.uniq k j (by have := hlm j hjl; omega) (hlm j hjl) hd'
                omega] at h5
            · right
              exact getM_stOf_other fun k hk hsk hd' => hj2 ⟨k, hk, hd', hsk⟩
        have heff' := heff.move hmem hlook
        have hfree : (e i).2.isSome = true → (stOf e (dstAt ops) s0 l).free d = true := by
          intro hsi
          obtain ⟨hA, hf⟩ := hborn hsi
          have hsub : ∀ j ∈ l, j < i := by
            intro j hj
            rcases Nat.lt_trichotomy j i with h | h | h
            · exact h
            · subst h; exact absurd hj hnl
            · exact absurd (hcl j hj i (hp.born i j him (hlm j hj) hA h)) hnl
          simp only [StL.free, Bool.and_eq_true] at hf ⊢
          obtain ⟨⟨hf1, hf2⟩, hf3, hf6⟩ := hf
          rw [stOf_allT] at hf1
          rw [stOf_allM] at hf2
          refine ⟨⟨stOf_allT.2 ⟨hf1.1, fun j hj => hf1.2 j (mem_desc.2 (hsub j hj))⟩, stOf_allM.2 ⟨hf2.1, fun j hj => hf2.2 j (mem_desc.2 (hsub j hj))⟩⟩, ?_, hf6⟩
          have h5 := Res.eq_dead hf3
          rw [← hda] at h5 ⊢
          rw [getM_stOf_other fun k hk hsk hd' => by
            have h6 := mem_desc.1 hk
            have := hp.uniq k i (by omega) him hd'
            omega] at h5
          rw [getM_stOf_other fun k hk hsk hd' => by
            have h6 := hsub k hk
            have := hp.uniq k i (by omega) him hd'
            omega, h5]
          rfl
        have heq : (fun q r => q = (e i).1 ∧ r = (e i).2) = fun q' r' => q' = (e i).1 ∧ r' = (e i).2 := rfl
        refine effW_wpOp ho hd hdn hsim heff' hfree fun a' w' hsim' => ?_
        have hset : ∀ j, (listed.setIfInBounds i true).getD j true = (listed.getD j true || j == i) := by
          intro j
          simp only [Array.getD_eq_getD_getElem?, Array.getElem?_setIfInBounds]
          by_cases e : i = j
          · subst e; simp [show i < listed.size by omega]
          · have e' : (j == i) = false := by simp; omega
            simp [e, e']
        refine ih _ _ _ (by simpa using hs) ?_ (.inl ⟨i :: l, fun j hj => ?_, fun j hj => ?_, fun j hj k hk => ?_, ?_⟩)
        · have := cnt_one (p := fun i => !listed.getD i true) (p' := fun j => !(listed.setIfInBounds i true).getD j true) (i := i) (by simp [h1]) (fun j => by simp only [hset]; simp [bne]) hin
          omega
        · rw [hset, Bool.or_eq_true, hl j hj, List.mem_cons, beq_iff_eq]
          exact Or.comm
        · rcases List.mem_cons.1 hj with rfl | hj
          · exact him
          · exact hlm j hj
        · rcases List.mem_cons.1 hj with rfl | hj
          · exact List.mem_cons_of_mem _ (hdeps k hk)
          · exact List.mem_cons_of_mem _ (hcl j hj k hk)
        · simp only [stOf, hda]
          exact hsim'
    · exact two (fuel + 1) listed a w hs hc h2

/-- A region that draws its order. -/
theorem cw_draw {id m : Nat} {As : List Nat} {s : StL} {Q : Exit → StL → Prop} (hm : P.follows .mixedOrders = true) (hok : drawOk ops m As (depsOf ops) = true)
    (h : ∀ K : StL → Prop, (∀ s', Q .normal s' → K s') → DrawW P n ops m As 0 ops.toList s K) : CodeW P n (.region id ops true) s Q := by
  intro w0 F0 a w hs
  have hp := passes_of hok
  obtain ⟨e, _, hgood, hrest⟩ := drawW_plan (P := P) (n := n) (ops := ops) hp.le m 0 (fun _ => (.undef, none)) (by omega) (by simpa [desc, stOf] using h _ fun s' hs' => hs')
  refine wp_region_any hm ?_
  have hs' : Sim w0 F0 n s a { w with drawn := w.drawn + 1 } := by
    obtain ⟨φ, fp, hx⟩ := hs
    exact ⟨φ, fp, hx.same rfl rfl rfl rfl⟩
  refine draw_any (w0 := w0) (F0 := F0) (K := fun s' => Q .normal s') hp (fun j hj => hgood j (Nat.zero_le _) hj) hrest (fun s' a' w' h1 h2 => ⟨s', h1, h2⟩) ops.size _ _ _ (by simp) ?_ (.inl ⟨[], fun i hi => ?_, by simp, by simp, hs'⟩)
  · have : ∀ k, cnt (fun i => !(Array.replicate ops.size false).getD i true) k ≤ k := by
      intro k
      induction k with
      | zero => simp [cnt]
      | succ k ih => simp only [cnt]; split <;> omega
    exact this _
  · simp [Array.getD_eq_getD_getElem?, hi]

end
end Go.PS
