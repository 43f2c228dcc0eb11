import Derived.Test.YtgcncgocdfioiaaDoorCL4
import Derived.Test.YtgcncgocdfioiaaDoorCW8
/- CL8: a graph without a corner; the law of ChaseCorner. -/
set_option linter.unusedVariables false
set_option linter.unusedSimpArgs false
set_option maxRecDepth 20000
namespace Go.Proofs.YtgcncgocdfioiaaDoor
open Go Go.PS
attribute [-simp] isKeyK List.map_take
/-- What makes a valid graph. -/
theorem graph_of {h : List Int} (h8 : h.length ≤ 8) (hm : ∀ i, i < h.length → ∃ m : Nat, h.getD i 0 = m ∧ m < 2 ^ h.length ∧ m.testBit i = false) (hsy : ∀ i j, i < h.length → j < h.length → ((h.getD i 0).toNat).testBit j = ((h.getD j 0).toNat).testBit i) : graphB h = true := by
  have hN : 2 ^ h.length ≤ 2 ^ 8 := Nat.pow_le_pow_right (by decide) h8
  rw [graphB, List.all_eq_true]
  intro i hi
  rw [List.mem_range] at hi
  obtain ⟨m, hmi, hlt, hb⟩ := hm i hi
  rw [rowB, Bool.and_eq_true]
  constructor
  · rw [rowA, hmi, and1 m (by omega) i (by omega), hb, decide_eq_false (by omega), decide_eq_false (by omega)]
    rfl
  · rw [List.all_eq_true]
    intro j hj
    rw [List.mem_range] at hj
    obtain ⟨m', hmj, hlt', _⟩ := hm j hj
    have := hsy i j hi hj
    rw [hmi, hmj, Int.toNat_natCast, Int.toNat_natCast] at this
    rw [cellB, hmi, hmj, and1 m (by omega) j (by omega), and1 m' (by omega) i (by omega), this]
    simp
theorem rT_town {h : List Int} {i j m : Nat} (hi : i < h.length) (hm : h.getD i 0 = (m : Int)) : rT (townOf h) i j ↔ m.testBit j = true ∨ i = j := by
  rw [rT, town_get h i hi, hm, Int.toNat_natCast, Nat.testBit_or, Nat.testBit_two_pow]
  simp
theorem valid_of {h : List Int} (h1 : 1 ≤ h.length) (h8 : h.length ≤ 8) (hg : graphB h = true) (hs : ∀ x y, vT (townOf h) x → vT (townOf h) y → rT (townOf h) x y → rT (townOf h) y x) (hc : Conn (vT (townOf h)) (rT (townOf h))) : validG h = true := by
  rw [validG, decide_eq_true ⟨h1, h8⟩, hg, (conn_iff (town_ok h1 h8 hg) hs).2 hc]
  rfl
/-- A row without a column. -/
def wN (m v : Nat) : Nat := (m &&& (2 ^ v - 1)) ||| ((m >>> (v + 1)) <<< v)
theorem wN_bit (m v j : Nat) : (wN m v).testBit j = if j < v then m.testBit j else m.testBit (j + 1) := by
  rw [wN, Nat.testBit_or, Nat.testBit_and, Nat.testBit_two_pow_sub_one, Nat.testBit_shiftLeft, Nat.testBit_shiftRight]
  by_cases h : j < v
  · have h2 : ¬ v ≤ j := by omega
    simp [h, h2]
  · have h2 : v ≤ j := by omega
    have h3 : v + 1 + (j - v) = j + 1 := by omega
    simp [h, h2, h3]
theorem bit_lt {m n : Nat} (h : ∀ j, m.testBit j = true → j < n) : m < 2 ^ n := Nat.lt_pow_two_of_testBit m fun i hi => by
  cases hb : m.testBit i with
  | false => rfl
  | true => have := h i hb; omega
def emb (v j : Nat) : Nat := if j < v then j else j + 1
def dem (v x : Nat) : Nat := if x < v then x else x - 1
def wl (g : List Int) (v c : Nat) : List Nat := (List.range c).map fun j => wN (g.getD (emb v j) 0).toNat v
def cutC (v i : Nat) : Nat := if i ≤ v then i else i - 1
theorem wl_step (g : List Int) (v i : Nat) : wl g v (cutC v (i + 1)) = if i = v then wl g v (cutC v i) else wl g v (cutC v i) ++ [wN (g.getD i 0).toNat v] := by
  by_cases e : i = v
  · subst e
    have h1 : cutC i (i + 1) = i := by unfold cutC; split <;> omega
    have h2 : cutC i i = i := by unfold cutC; split <;> omega
    rw [if_pos rfl, h1, h2]
  · rw [if_neg e]
    rcases Nat.lt_or_ge i v with h | h
    · have h1 : cutC v (i + 1) = i + 1 := by unfold cutC; split <;> omega
      have h2 : cutC v i = i := by unfold cutC; split <;> omega
      have h3 : emb v i = i := by unfold emb; split <;> omega
      rw [h1, h2, wl, List.range_succ, List.map_append, wl, List.map_cons, List.map_nil, h3]
    · have h1 : cutC v (i + 1) = (i - 1) + 1 := by unfold cutC; split <;> omega
      have h2 : cutC v i = i - 1 := by unfold cutC; split <;> omega
      have h3 : emb v (i - 1) = i := by unfold emb; split <;> omega
      rw [h1, h2, wl, List.range_succ, List.map_append, wl, List.map_cons, List.map_nil, h3]
theorem shrI_nat' (m n : Nat) (hm : m < 256) (hn : n < 63) : shrI (m : Int) n = ((m >>> n : Nat) : Int) := shrI_nat m n (by omega)
theorem shlI_nat' (m n : Nat) (hm : m < 256) (hn : n < 9) : shlI (m : Int) n = ((m <<< n : Nat) : Int) := by
  have h1 : min n IntKind.i64.bits = n := by
    have : IntKind.i64.bits = 64 := rfl
    omega
  have h3 : 2 ^ n ≤ 2 ^ 9 := Nat.pow_le_pow_right (by decide) (by omega)
  have h4 : m * 2 ^ n ≤ 256 * 2 ^ 9 := Nat.mul_le_mul (by omega) h3
  rw [shlI, h1, Nat.shiftLeft_eq]
  have h2 : (m : Int) * 2 ^ n = ((m * 2 ^ n : Nat) : Int) := by simp
  rw [h2, wr (by omega) (by omega)]
theorem without_spec (g : List Int) (hg : isgB g = true) (v : Nat) (hv : v < g.length) : PCall Tryd.prog 22 [eIs g, eI v] (.t .fz (eNs (wl g v (g.length - 1)))) [] := by
  obtain ⟨ht, hl, hrow⟩ := isg_facts hg
  have h8 : g.length ≤ 8 := by have := ht.2.1; omega
  have hN : 2 ^ g.length ≤ 2 ^ 8 := Nat.pow_le_pow_right (by decide) h8
  refine pcall_wp _ Tryd.func22 rfl (by kernel_rfl) rfl ?_
  have hc0 : cutC v 0 = 0 := by unfold cutC; split <;> omega
  have hs := shl1 v (by omega)
  have hpv : 2 ^ v ≤ 2 ^ 8 := Nat.pow_le_pow_right (by decide) (by omega)
  have hpv0 : 0 < 2 ^ v := Nat.pow_pos (by decide)
  have hwN : ∀ m, wN m v = (m &&& (2 ^ v - 1)) ||| ((m >>> (v + 1)) <<< v) := fun _ => rfl
  obtain ⟨b, hb⟩ : ∃ b, b = 2 ^ v := ⟨_, rfl⟩
  rw [← hb] at hs hpv hpv0
  have hwb := wr (n := (b : Int) - 1) (by omega) (by omega)
  have heb : (b : Int) - 1 = ((b - 1 : Nat) : Int) := by omega
  rw [heb] at hwb
  have hwv := wr (n := (v : Int) + 1) (by omega) (by omega)
  have hev : (v : Int) + 1 = ((v + 1 : Nat) : Int) := by omega
  have hv1 : (0 : Int) ≤ (v : Int) + 1 := by omega
  simp -dsimp
  refine lg_adoptT 5 5 3 1 (by simp; rfl) (by simp) ?_
  refine wk_loop (fun i : Nat => ⟨[(10, pI i), (9, pI g.length), (8, .t .ro (eIs g)), (5, .osl 5), (1, .t .ro (eI v))], [(5, .row 3 1 .fz ((iL (wl g v (cutC v i))).map cI))]⟩)
    (fun i => i ≤ g.length) (fun i => g.length - i) 0
    (le_of (by simp) (by simp [hc0, wl])) (by simp) fun i hi => ?_
  simp -dsimp
  refine condX_dec (fun h => ?_) (fun h => ?_)
  · have hw := wr (n := (i : Int) + 1) (by omega) (by omega)
    have hil : (i : Int) < g.length := by omega
    have hx := at_ (l := g) h
    obtain ⟨m, hm, hmlt, _⟩ := hrow i h
    have hst := wl_step g v i
    rw [hm, Int.toNat_natCast] at hst
    rw [hm] at hx
    have hcl : (wl g v (cutC v i)).length ≤ 20 := by simp [wl, cutC]; split <;> omega
    have hbd : ((wl g v (cutC v i)).length + 1) * 8 ≤ 140737488355328 := by omega
    by_cases e : i = v
    · have hne : ((i : Int) != (v : Int)) = false := by simp; omega
      rw [if_pos e] at hst
      simp -dsimp [hil, hx, hne]
      refine LoopP_next (i + 1) (le_of (by simp [hw]) (by simp [hst])) h (by omega)
    · have hne : ((i : Int) != (v : Int)) = true := by simp; omega
      rw [if_neg e] at hst
      have a1 := andI_nat m (b - 1) (by omega) (by omega)
      have a2 := shrI_nat' m (v + 1) (by omega) (by omega)
      have hm2 : m >>> (v + 1) < 256 := by
        rw [Nat.shiftRight_eq_div_pow]
        have := Nat.div_le_self m (2 ^ (v + 1))
        omega
      have a3 := shlI_nat' (m >>> (v + 1)) v hm2 (by omega)
      have h5 : m &&& (b - 1) < 256 := Nat.lt_of_le_of_lt Nat.and_le_left (by omega)
      have h6 : (m >>> (v + 1)) <<< v < 2 ^ 18 := by
        rw [Nat.shiftLeft_eq]
        have : m >>> (v + 1) * 2 ^ v ≤ 256 * 2 ^ 9 := Nat.mul_le_mul (by omega) (Nat.pow_le_pow_right (by decide) (by omega))
        omega
      have a4 := orI_nat (m &&& (b - 1)) ((m >>> (v + 1)) <<< v) (by omega) (by omega)
      have hwm := hwN m
      rw [← hb] at hwm
      rw [← hwm] at a4
      generalize (m >>> (v + 1)) <<< v = z3 at *
      generalize m >>> (v + 1) = z2 at *
      generalize m &&& (b - 1) = z1 at *
      have i0 : (0 : Int) ≤ (v : Int) := by omega
      have htn : ((v : Int) + 1).toNat = v + 1 := by omega
      simp -dsimp [hil, hx, hne]
      refine wk_draw 14 [13] mixed (by kernel_rfl) ?_
      simp -dsimp [hs, heb, hwb, a1, i0, hwv, hv1, htn, a2, a3, a4, hbd]
      refine LoopP_next (i + 1) (le_of (by simp [hw]) (by simp [hst])) h (by omega)
  · have hi' : i = g.length := by omega
    have hce : cutC v g.length = g.length - 1 := by unfold cutC; split <;> omega
    rw [hi', hce]
    simp -dsimp
    refine retP_c ?_
    simp -dsimp
theorem emb_inj {v i j : Nat} (h : emb v i = emb v j) : i = j := by
  unfold emb at h
  split at h <;> split at h <;> omega
theorem dem_emb (v x : Nat) : dem v (emb v x) = x := by
  by_cases h : x < v
  · simp [emb, dem, h]
  · have h2 : ¬ x + 1 < v := by omega
    simp [emb, dem, h, h2]
theorem emb_dem {v x : Nat} (hx : x ≠ v) : emb v (dem v x) = x := by
  by_cases h : x < v
  · simp [emb, dem, h]
  · have h2 : ¬ x - 1 < v := by omega
    have h3 : x - 1 + 1 = x := by omega
    simp [emb, dem, h, h2, h3]
theorem wN_emb (m v j : Nat) : (wN m v).testBit j = m.testBit (emb v j) := by
  rw [wN_bit, emb]
  split <;> rfl
/-- A corner taken away leaves a graph, and changes nothing about who catches the cat. -/
theorem without_ok {g : List Int} (hv : validG g = true) {u v : Nat} (hc : Cov (vT (townOf g)) (rT (townOf g)) u v) : validG (iL (wl g v (g.length - 1))) = true ∧ ∀ two, Cw (vT (townOf (iL (wl g v (g.length - 1))))) (rT (townOf (iL (wl g v (g.length - 1))))) two ↔ Cw (vT (townOf g)) (rT (townOf g)) two := by
  obtain ⟨ht, hr, hs, hcn⟩ := valid_facts hv
  obtain ⟨_, hl, hrow⟩ := isg_facts (valid_isg hv)
  have h8 := (valid_at hv).2.1
  have hvn : v < g.length := by have := hc.2.2.1; simp only [vT, hl] at this; exact this
  have hun : u < g.length := by have := hc.2.1; simp only [vT, hl] at this; exact this
  have hne := hc.1
  obtain ⟨h, hh⟩ : ∃ h, h = iL (wl g v (g.length - 1)) := ⟨_, rfl⟩
  rw [← hh]
  have hlen : h.length = g.length - 1 := by rw [hh]; simp [wl]
  have he : ∀ i, i < h.length → emb v i < g.length ∧ emb v i ≠ v := fun i hi => by
    unfold emb
    split <;> omega
  have hget : ∀ i, i < h.length → ∃ m : Nat, g.getD (emb v i) 0 = m ∧ h.getD i 0 = ((wN m v : Nat) : Int) := fun i hi => by
    obtain ⟨m, hm, _, _⟩ := hrow (emb v i) (he i hi).1
    refine ⟨m, hm, ?_⟩
    have hi2 : i < g.length - 1 := by omega
    rw [hh]
    simp [iL, wl, List.getD_eq_getElem?_getD, hi2]
    have := hm
    rw [List.getD_eq_getElem?_getD] at this
    rw [this, Int.toNat_natCast]
  have hrT : ∀ i j, i < h.length → j < h.length → (rT (townOf h) i j ↔ rT (townOf g) (emb v i) (emb v j)) := fun i j hi hj => by
    obtain ⟨m, hm, hm2⟩ := hget i hi
    rw [rT_town hi hm2, rT_town (he i hi).1 hm, wN_emb]
    exact ⟨fun h => h.imp id (congrArg _), fun h => h.imp id emb_inj⟩
  have hlh : (townOf h).length = h.length := town_len h
  obtain ⟨r1, r2⟩ := Ret.iso (V := vT (townOf h)) (r := rT (townOf h)) (V' := fun x => vT (townOf g) x ∧ x ≠ v) (r' := rT (townOf g)) (σ := emb v) (τ := dem v)
    (fun x hx => by
      simp only [vT, hl, hlh] at hx ⊢
      exact he x hx)
    (fun x hx => by
      simp only [vT, hl, hlh] at hx ⊢
      unfold dem
      split <;> omega)
    (fun x y hx hy => by
      simp only [vT, hlh] at hx hy
      exact hrT x y hx hy)
    (fun x hx => dem_emb v x)
    (fun x hx => emb_dem hx.2)
  have hsy : ∀ x y, vT (townOf h) x → vT (townOf h) y → rT (townOf h) x y → rT (townOf h) y x := fun x y hx hy hxy => by
    simp only [vT, hlh] at hx hy
    rw [hrT y x hy hx]
    have h1 := (hrT x y hx hy).1 hxy
    exact hs _ _ (by simp only [vT, hl]; exact (he x hx).1) (by simp only [vT, hl]; exact (he y hy).1) h1
  have hg : graphB h = true := by
    refine graph_of (by omega) (fun i hi => ?_) (fun i j hi hj => ?_)
    · obtain ⟨m, hm, hm2⟩ := hget i hi
      obtain ⟨m0, hm0, hlt, ht0⟩ := hrow (emb v i) (he i hi).1
      have e0 : m = m0 := by rw [hm] at hm0; omega
      subst e0
      refine ⟨wN m v, hm2, bit_lt fun j hj => ?_, ?_⟩
      · rw [wN_emb] at hj
        have h1 : emb v j < g.length := by
          rcases Nat.lt_or_ge (emb v j) g.length with h6 | h6
          · exact h6
          · rw [Nat.testBit_lt_two_pow (Nat.lt_of_lt_of_le hlt (Nat.pow_le_pow_right (by decide) h6))] at hj
            cases hj
        unfold emb at h1
        split at h1 <;> omega
      · rw [wN_emb]
        -- no node is beside itself in the graph itself
        have hgb := (valid_at hv).2.2.1
        have hrw := List.all_eq_true.1 hgb (emb v i) (List.mem_range.2 (he i hi).1)
        simp only [rowB, Bool.and_eq_true] at hrw
        have hA := hrw.1
        simp only [rowA, Bool.not_eq_true', Bool.or_eq_false_iff] at hA
        have hN : 2 ^ g.length ≤ 2 ^ 8 := Nat.pow_le_pow_right (by decide) h8
        have h2 := hA.2.2
        rw [hm, and1 m (by omega) _ (by have := (he i hi).1; omega)] at h2
        cases hb : m.testBit (emb v i) with
        | false => rfl
        | true => rw [hb] at h2; simp at h2
    · obtain ⟨m, hm, hm2⟩ := hget i hi
      obtain ⟨m', hm', hm2'⟩ := hget j hj
      rw [hm2, hm2', Int.toNat_natCast, Int.toNat_natCast, wN_emb, wN_emb]
      by_cases e : i = j
      · subst e
        rw [hm] at hm'
        have : m = m' := by omega
        rw [this]
      · have e2 : emb v i ≠ emb v j := fun h => e (emb_inj h)
        have h1 := rT_town (he i hi).1 hm (j := emb v j)
        have h2 := rT_town (he j hj).1 hm' (j := emb v i)
        have hxi : vT (townOf g) (emb v i) := by simp only [vT, hl]; exact (he i hi).1
        have hxj : vT (townOf g) (emb v j) := by simp only [vT, hl]; exact (he j hj).1
        rw [Bool.eq_iff_iff]
        constructor
        · intro h
          exact ((h2.1 (hs _ _ hxi hxj (h1.2 (.inl h)))).resolve_right (Ne.symm e2))
        · intro h
          exact ((h1.1 (hs _ _ hxj hxi (h2.2 (.inl h)))).resolve_right e2)
  refine ⟨valid_of (by omega) (by omega) hg hsy (r1.conn (hcn.fold hr hs hc)), fun two => ?_⟩
  rw [Cw.corner hr hs hc]
  exact ⟨fun h => r2.cw h, fun h => r1.cw h⟩
theorem rounds_e {g h : List Int} {k : Int} (hg : okG g k = true) (hh : okG h k = true) (hc : 0 ≤ (strF h k).2 ↔ 0 ≤ (strF g k).2) : ∃ x y e : Int, roundsF g k = .tup [eI x, eI e] ∧ roundsF h k = .tup [eI y, eI e] := by
  rw [rounds_ok hg, rounds_ok hh]
  by_cases h1 : (strF g k).2 < 0
  · rw [if_pos h1, if_pos (by omega)]
    exact ⟨0, 0, 4, rfl, rfl⟩
  · rw [if_neg h1, if_neg (by omega)]
    exact ⟨_, _, 0, rfl, rfl⟩
theorem toF_nat' {n : Nat} (h1 : 1 ≤ n) (h8 : n ≤ 1000) (f : Int) : ∃ m : Nat, IntKind.i64.wrap (Int.tmod (IntKind.u64.wrap f) (IntKind.u64.wrap n)) = m ∧ m < n := by
  have h2 : IntKind.u64.wrap (n : Int) = n := by rw [IntKind.wrap_u64]; omega
  have h3 : 0 ≤ IntKind.u64.wrap f := by rw [IntKind.wrap_u64]; omega
  obtain ⟨x, hx⟩ : ∃ x : Nat, IntKind.u64.wrap f = x := ⟨(IntKind.u64.wrap f).toNat, by omega⟩
  have h4 : Int.tmod (x : Int) (n : Int) = ((x % n : Nat) : Int) := rfl
  have h5 : x % n < n := Nat.mod_lt _ (by omega)
  refine ⟨x % n, ?_, h5⟩
  rw [h2, hx, h4, wr (by omega) (by omega)]
theorem corL_cov {g : List Int} (hv : validG g = true) {q : Pr} (hq : q ∈ corL (townOf g) (2 ^ g.length - 1)) : Cov (vT (townOf g)) (rT (townOf g)) q.2 q.1 := by
  have ht := valid_town hv
  have hl := town_len g
  have hp : 2 ≤ 2 ^ (townOf g).length := Nat.pow_le_pow_right (n := 2) (by decide) ht.1
  rw [← hl] at hq
  have hs : 2 ^ (townOf g).length - 1 < 2 ^ (townOf g).length := by omega
  have h8 := sub_lt ht hs
  simp only [corL, pairsOf, List.mem_flatMap, List.mem_map, List.mem_filter] at hq
  obtain ⟨x, hx, y, ⟨hy, hc⟩, rfl⟩ := hq
  have h1 := (covF_iff ht hs ((bits_mem h8).1 hx) ((bits_mem h8).1 hy)).1 hc
  have e : bX (2 ^ (townOf g).length - 1) = vT (townOf g) := funext fun z => propext bX_full
  rw [e] at h1
  exact h1
theorem corner_true (g : List Int) (wh : Int) : PCall Tryd.prog 5 [eIs g, eI wh] (pB true) [] := by
  refine pcall_sl 0 rfl call5 fun hlen => ?_
  simp only [List.length_map] at hlen
  refine pcall_wp _ Tryd.func5 rfl (by kernel_rfl) rfl ?_
  have hf := few_spec g
  have ha := awake_spec
  have hvs := valid_spec g
  obtain ⟨t1, t2⟩ := take_valid g
  cases hv : validG g with
  | false =>
    rw [hv] at hvs
    simp -dsimp
    first
      | refine CallG.by (hvs) ?_
      | refine CallGE.by (hvs) ?_
      | refine CallGB.by (hvs) ?_
    simp -dsimp
    first
      | refine CallG.by (ha) ?_
      | refine CallGE.by (ha) ?_
      | refine CallGB.by (ha) ?_
    simp -dsimp
    refine retP_c ?_
    simp -dsimp
  | true =>
    rw [hv] at hvs
    rw [t2 hv] at hf
    have hg := valid_isg hv
    obtain ⟨ht, hl, _⟩ := isg_facts hg
    have h8 := (valid_at hv).2.1
    have h1n := (valid_at hv).1
    have hN8 : 2 ^ g.length ≤ 2 ^ 8 := Nat.pow_le_pow_right (by decide) h8
    have hp : 2 ≤ 2 ^ g.length := Nat.pow_le_pow_right (n := 2) (by decide) h1n
    have hsh := shl1 g.length (by omega)
    have hco := corners_spec g (2 ^ g.length - 1 : Nat)
    have ho : cornersOk g (2 ^ g.length - 1 : Nat) = true := by rw [cornersOk, hv, Bool.true_and, decide_eq_true_eq]; omega
    rw [cornersF, ho, if_pos rfl, Int.toNat_natCast] at hco
    have hcv := fun q hq => corL_cov hv (q := q) hq
    have hcl : (corL (townOf g) (2 ^ g.length - 1)).length ≤ 200 := by
      have h3 := pairsTo_len (bitsL (2 ^ g.length - 1)) (bitsL (2 ^ g.length - 1)) (fun v u => covF (townOf g) u v (2 ^ g.length - 1)) (bitsL (2 ^ g.length - 1)).length 0
      rw [pairsTo_all] at h3
      have h4 := bits_len (2 ^ g.length - 1)
      have h5 : (bitsL (2 ^ g.length - 1)).length * (bitsL (2 ^ g.length - 1)).length ≤ 8 * 8 := Nat.mul_le_mul h4 h4
      rw [corL]
      omega
    have hwo := fun v hvn => without_spec g hg v hvn
    have hwk := fun {u v} hc => without_ok hv (u := u) (v := v) hc
    generalize corL (townOf g) (2 ^ g.length - 1) = C at *
    generalize 2 ^ g.length = N at *
    have hwN := wr (n := (N : Int) - 1) (by omega) (by omega)
    have heN : (N : Int) - 1 = ((N - 1 : Nat) : Int) := by omega
    rw [heN] at hwN
    simp -dsimp
    first
      | refine CallG.by (hvs) ?_
      | refine CallGE.by (hvs) ?_
      | refine CallGB.by (hvs) ?_
    simp -dsimp
    refine wk_draw 11 [3, 6] mixed (by kernel_rfl) ?_
    simp -dsimp
    first
      | refine CallG.by (hf) ?_
      | refine CallGE.by (hf) ?_
      | refine CallGB.by (hf) ?_
    simp -dsimp [hsh, heN, hwN]
    first
      | refine CallG.by (hco) ?_
      | refine CallGE.by (hco) ?_
      | refine CallGB.by (hco) ?_
    by_cases hC0 : C = []
    · subst hC0
      simp -dsimp
      first
        | refine CallG.by (ha) ?_
        | refine CallGE.by (ha) ?_
        | refine CallGB.by (ha) ?_
      simp -dsimp
      refine retP_c ?_
      simp -dsimp
    have hcpos : 0 < C.length := List.length_pos_iff.2 hC0
    have hc0 : ((C.length : Int) == 0) = false := by simp; omega
    obtain ⟨m, hm, hmlt⟩ := toF_nat' (n := C.length) (by omega) (by omega) wh
    have hqm : C.getD m (0, 0) ∈ C := mem_gPr hmlt
    have hq := gP (l := C) hmlt
    have hcvq := hcv _ hqm
    generalize C.getD m (0, 0) = q at *
    have hvn : q.1 < g.length := by have := hcvq.2.2.1; simp only [vT, hl] at this; exact this
    have hw := hwo q.1 hvn
    obtain ⟨hwv, hwc⟩ := hwk hcvq
    have hml : (m : Int) < C.length := by omega
    have hcond : ¬ IntKind.u64.wrap (C.length : Int) = 0 := by
      rw [IntKind.wrap_u64]
      omega
    have q0 : ¬ (q.1 : Int) < 0 := by omega
    have q1 : ¬ (g.length : Int) ≤ q.1 := by omega
    obtain ⟨W, hW⟩ : ∃ W, W = wl g q.1 (g.length - 1) := ⟨_, rfl⟩
    rw [← hW] at hw hwv hwc
    have hWl : (iL W).length * 8 ≤ 140737488355328 := by rw [hW]; simp [wl]; omega
    have hcln := clone23_spec (iL W) hWl
    have hkk : ∀ k : Int, (k = 1 ∨ k = 2) → ∃ x y e : Int, roundsF g k = .tup [eI x, eI e] ∧ roundsF (iL W) k = .tup [eI y, eI e] := fun k hk => by
      have hko : ((k == 1) || (k == 2)) = true := by simpa using hk
      refine rounds_e (by rw [okG, hv, hko]; rfl) (by rw [okG, hwv, hko]; rfl) ?_
      rw [strF_cw hwv, strF_cw hv]
      exact hwc _
    have hr1 := fun k => rounds_spec g k
    have hr2 := fun k => rounds_spec (iL W) k
    simp -dsimp [hc0, hcond, hm, hml, hq]
    simp -dsimp [q0, q1]
    first
      | refine CallG.by (hw) ?_
      | refine CallGE.by (hw) ?_
      | refine CallGB.by (hw) ?_
    simp -dsimp
    refine wk_loop (fun i : Nat => ⟨[(9, pI i), (8, .t .fz (eNs W)), (0, .t .ro (eIs g))], []⟩)
      (fun i => 1 ≤ i ∧ i ≤ 3) (fun i => 3 - i) 1
      (le_of (by simp) (by simp)) (by omega) fun i ⟨hi1, hi⟩ => ?_
    simp -dsimp
    by_cases hi3 : (i : Int) ≤ 2
    · have hwi := wr (n := (i : Int) + 1) (by omega) (by omega)
      obtain ⟨x, y, e, e1, e2⟩ := hkk i (by omega)
      have hr1 := hr1 i
      have hr2 := hr2 i
      rw [e1] at hr1
      rw [e2] at hr2
      have hee : (e != e) = false := by simp
      simp -dsimp [hi3]
      first
        | refine CallG.by (hf) ?_
        | refine CallGE.by (hf) ?_
        | refine CallGB.by (hf) ?_
      simp -dsimp
      first
        | refine CallG.by (hr1) ?_
        | refine CallGE.by (hr1) ?_
        | refine CallGB.by (hr1) ?_
      simp -dsimp
      first
        | refine CallG.by (hcln) ?_
        | refine CallGE.by (hcln) ?_
        | refine CallGB.by (hcln) ?_
      simp -dsimp
      first
        | refine CallG.by (hr2) ?_
        | refine CallGE.by (hr2) ?_
        | refine CallGB.by (hr2) ?_
      simp -dsimp [hee]
      refine LoopP_next (i + 1) (le_of (by simp [hwi]) (by simp)) (by omega) (by omega)
    · simp -dsimp [hi3]
      first
        | refine CallG.by (ha) ?_
        | refine CallGE.by (ha) ?_
        | refine CallGB.by (ha) ?_
      simp -dsimp
      refine retP_c ?_
      simp -dsimp
end Go.Proofs.YtgcncgocdfioiaaDoor
