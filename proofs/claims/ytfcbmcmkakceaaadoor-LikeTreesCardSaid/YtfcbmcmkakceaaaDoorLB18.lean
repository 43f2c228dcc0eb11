import Derived.Test.YtfcbmcmkakceaaaDoorLB17
/- LB18: colours, tally, equal slices, shades, Alike, Refine. -/
set_option linter.unusedVariables false
set_option linter.unusedSimpArgs false
set_option maxRecDepth 20000
namespace Go.Proofs.YtfcbmcmkakceaaaDoor
open Go Go.PS
attribute [-simp] isKeyK List.map_take
theorem colours_spec (t : List Nat) (hp : 1 ≤ t.length) (ht : t.length ≤ 12) (hs : ∀ x ∈ t, x < 2 ^ t.length) :
    PCall Tryd.prog 61 [eNs t] (.t .fz (.tup [eNs (colN t).1, eI ((colN t).2 : Nat)])) [] := by
  refine pcall_wp _ Tryd.func61 rfl (by kernel_rfl) rfl ?_
  have hb : (t.length : Int) ≤ 140737488355328 := by omega
  have hb2 : 8 * (t.length : Int) ≤ 281474976710656 := by omega
  have hz : (iL (List.replicate t.length 0)).map cI = List.replicate t.length [eI 0] := by simp [iL, cI]
  simp -dsimp [hb, hb2]
  refine lg_frz [7] ?_
  simp -dsimp
  refine wk_loop (fun p : List Nat × Nat => ⟨[(2, .t .fz (eNs p.1)), (3, pI p.2), (0, .t .ro (eNs t))], []⟩)
    (fun p => Full t.length p.1 ∧ colW t p.1 p.2 = colN t ∧ p.2 ≤ 12 - (t.length - mostN p.1)) (fun p => t.length - mostN p.1) (List.replicate t.length 0, 0)
    (le_of (by simp [hz]) (by simp)) ⟨full_zero _, rfl, by simp⟩ fun ⟨c, r⟩ ⟨hf, hc, hr⟩ => ?_
  dsimp only at hf hc hr
  have hf' := refN_full t c
  have h1 := most_mono hf
  have h2 := full_le hf'
  have h3 := full_le hf
  have hcl := hf.1
  have hrl := hf'.1
  have hre := refined_spec t c hcl ht hs
  have hd1 := diff_spec (refN t c) (by intro e; rw [e] at hrl; simp at hrl; omega) fun x hx => by
    have := most_lt hx
    omega
  have hd2 := diff_spec c (by intro e; rw [e] at hcl; simp at hcl; omega) fun x hx => by
    have := most_lt hx
    omega
  have hw := wr (n := (r : Int) + 1) (by omega) (by omega)
  have hstop := fun e => colW_stop (t := t) (c := c) (r := r) e
  have hgo := fun e => colW_go (r := r) hf e
  generalize refN t c = d at *
  simp -dsimp
  first
    | refine CallG.by (hre) ?_
    | refine CallGE.by (hre) ?_
    | refine CallGB.by (hre) ?_
  simp -dsimp
  first
    | refine CallG.by (hd1) ?_
    | refine CallGE.by (hd1) ?_
    | refine CallGB.by (hd1) ?_
  simp -dsimp
  first
    | refine CallG.by (hd2) ?_
    | refine CallGE.by (hd2) ?_
    | refine CallGB.by (hd2) ?_
  by_cases he : mostN d = mostN c
  · have hF := hstop he
    rw [hc] at hF
    have he' : ((mostN d : Int) == (mostN c : Int)) = true := by simp [he]
    simp -dsimp [he']
    refine retP_c ?_
    simp -dsimp [hF]
  · have he' : ((mostN d : Int) == (mostN c : Int)) = false := by
      rw [beq_eq_false_iff_ne]
      omega
    simp -dsimp [he']
    refine LoopP_next (d, r + 1) (le_of (by simp [hw]) (by simp)) ⟨hf', ?_, ?_⟩ ?_
    · simp only
      rw [← hgo he, hc]
    · simp only
      omega
    · simp only
      omega
/-- How often each number occurs. -/
def tlyN (l : List Nat) (m : Nat) : List Nat := (List.range m).map fun q => l.count q
theorem tly_len (l : List Nat) (m : Nat) : (tlyN l m).length = m := by simp [tlyN]
theorem tly_get (l : List Nat) {m q : Nat} (h : q < m) : (tlyN l m).getD q 0 = l.count q := by simp [tlyN, List.getD_eq_getElem?_getD, h]
theorem tly_snoc (l : List Nat) {m c : Nat} (h : c < m) : (tlyN l m).set c (l.count c + 1) = tlyN (l ++ [c]) m := by
  apply List.ext_getElem (by simp [tly_len])
  intro i h1 h2
  simp only [List.length_set, tly_len] at h1
  rw [List.getElem_set]
  simp only [tlyN, List.getElem_map, List.getElem_range, List.count_append, List.count_singleton]
  by_cases e : c = i
  · subst e
    simp
  · have e' : (c == i) = false := by simpa using e
    simp [e, e']
theorem tally_spec (l : List Nat) (m : Nat) (hm : m ≤ 1000) (hl : ∀ x ∈ l, x < m) (h100 : l.length ≤ 1000) : PCall Tryd.prog 77 [eNs l, eI m] (.t .fz (eNs (tlyN l m))) [] := by
  refine pcall_wp _ Tryd.func77 rfl (by kernel_rfl) rfl ?_
  have hb : (m : Int) ≤ 140737488355328 := by omega
  have hb2 : 8 * (m : Int) ≤ 281474976710656 := by omega
  have hz : (iL (tlyN [] m)).map cI = List.replicate m [eI 0] := by
    simp only [tlyN, List.count_nil, iL, List.map_map]
    apply List.ext_getElem (by simp)
    intro i h1 h2
    simp [cI]
  simp -dsimp [hb, hb2]
  refine wk_loop (fun i : Nat => ⟨[(12, pI i), (11, pI l.length), (10, .t .ro (eNs l)), (5, .osl 9)], [(9, .row 3 1 .fz ((iL (tlyN (l.take i) m)).map cI))]⟩)
    (fun i => i ≤ l.length) (fun i => l.length - i) 0
    (le_of (by simp) (by simp [hz])) (by omega) fun i hi => ?_
  simp -dsimp
  refine condX_dec (fun h => ?_) (fun h => ?_)
  · have hw := wr (n := (i : Int) + 1) (by omega) (by omega)
    have q1 := iL_at (l := l) (i := i) h
    have hlt := hl _ (getD_mem h)
    have hta := take_at h
    have hcnt : (l.take i).count (l.getD i 0) ≤ l.length := Nat.le_trans List.count_le_length (by simp; omega)
    have hsn := tly_snoc (l.take i) hlt
    have hg := tly_get (l.take i) hlt
    rw [← hta] at hsn
    generalize l.getD i 0 = q at *
    generalize List.count q (l.take i) = k at *
    have hll := tly_len (l.take i) m
    generalize tlyN (l.take i) m = C at *
    have q2 := iL_at (l := C) (i := q) (by omega)
    rw [hg] at q2
    have hwk := wr (n := (k : Int) + 1) (by omega) (by omega)
    have hset := iL_set C q (k + 1)
    rw [hsn] at hset
    have hset' : List.map cI (iL (tlyN (l.take (i + 1)) m)) = (List.map cI (iL C)).set q [eI ((k : Int) + 1)] := by
      rw [hset, List.map_set]
      rfl
    have q2' : ∀ hh : q < (iL C).length, (iL C)[q]'hh = (k : Int) := fun hh => by
      rw [List.getElem?_eq_getElem hh] at q2
      exact Option.some.inj q2
    have i1 : (i : Int) < l.length := by omega
    have i2 : (q : Int) < C.length := by omega
    have i3 : q < C.length := by omega
    have i5 : (0 : Int) ≤ i := by omega
    have i6 : (0 : Int) ≤ q := by omega
    simp -dsimp [i1, i5, q1, i2, i3, i6, q2, hwk]
    refine LoopP_next (i + 1) (le_of (by simp [hw]) (by simp [hset', q2', hwk])) (by omega) (by omega)
  · have hi' : i = l.length := by omega
    subst hi'
    rw [List.take_length]
    simp -dsimp
    refine retP_c ?_
    simp -dsimp
theorem equal_spec (a b : List Int) : PCall Tryd.prog 29 [eIs a, eIs b] (pB (decide (a = b))) [] := by
  refine pcall_sl 0 rfl call29 fun hla => ?_
  refine pcall_sl 1 rfl call29 fun hlb => ?_
  simp only [List.length_map] at hla hlb
  refine pcall_wp _ Tryd.func29 rfl (by kernel_rfl) rfl ?_
  by_cases hl : a.length = b.length
  rotate_left
  · have hne : ((a.length : Int) != (b.length : Int)) = true := by
      rw [bne_iff_ne]
      omega
    have hF : decide (a = b) = false := by
      rw [decide_eq_false_iff_not]
      rintro rfl
      exact hl rfl
    simp -dsimp [hne]
    refine retP_c ?_
    simp -dsimp [hF]
  have hne : ((a.length : Int) != (b.length : Int)) = false := by
    rw [bne_eq_false_iff_eq]
    omega
  simp -dsimp [hne]
  refine wk_loop (fun i : Nat => ⟨[(13, pI i), (12, pI a.length), (0, .t .ro (eIs a)), (1, .t .ro (eIs b))], []⟩)
    (fun i => i ≤ a.length ∧ a.take i = b.take i) (fun i => a.length - i) 0
    (le_of (by simp) (by simp)) ⟨by omega, rfl⟩ fun i ⟨hi, ht⟩ => ?_
  simp -dsimp
  refine condX_dec (fun h => ?_) (fun h => ?_)
  · have hw := wr (n := (i : Int) + 1) (by omega) (by omega)
    have i1 : (i : Int) < a.length := by omega
    have i2 : (i : Int) < b.length := by omega
    have h' : i < b.length := by omega
    have q1 := at_ (l := a) h
    have q2 := at_ (l := b) h'
    have t1 : a.take (i + 1) = a.take i ++ [a.getD i 0] := by
      rw [List.take_add_one, q1]; rfl
    have t2 : b.take (i + 1) = b.take i ++ [b.getD i 0] := by
      rw [List.take_add_one, q2]; rfl
    generalize a.getD i 0 = x at *
    generalize b.getD i 0 = y at *
    simp -dsimp
    refine wk_draw 8 [] mixed (by kernel_rfl) ?_
    by_cases e : x = y
    · subst e
      have hv : (x != x) = false := by simp
      simp -dsimp [i1, i2, q1, q2, hv]
      refine LoopP_next (i + 1) (le_of (by simp [hw]) (by simp)) ⟨h, by rw [t1, t2, ht]⟩ (by omega)
    · have hv : (x != y) = true := by simpa using e
      have hF : decide (a = b) = false := by
        rw [decide_eq_false_iff_not]
        rintro rfl
        rw [q1] at q2
        exact e (Option.some.inj q2)
      simp -dsimp [i1, i2, q1, q2, hv]
      refine retP_c ?_
      simp -dsimp [hF]
  · have hi' : i = a.length := by omega
    have hF : decide (a = b) = true := by
      rw [decide_eq_true_iff]
      rw [hi', List.take_length, hl, List.take_length] at ht
      exact ht
    simp -dsimp
    refine retP_c ?_
    simp -dsimp [hF]
theorem iL_inj {a b : List Nat} (h : iL a = iL b) : a = b := by
  have := congrArg (List.map Int.toNat) h
  simp only [iL, List.map_map] at this
  have e : (Int.toNat ∘ fun (x : Nat) => (x : Int)) = id := funext fun x => by simp
  rwa [e, List.map_id, List.map_id] at this
theorem like_tly (t h : List Nat) : likeN t h = decide (iL (tlyN (shN t h).1 (mostN (colN (besN t h)).1)) = iL (tlyN (shN t h).2 (mostN (colN (besN t h)).1))) := by
  rw [Bool.eq_iff_iff, decide_eq_true_iff]
  unfold likeN
  rw [List.all_eq_true]
  constructor
  · intro hh
    congr 1
    unfold tlyN
    refine List.map_congr_left fun q hq => ?_
    simpa using hh q hq
  · intro hh q hq
    have := iL_inj hh
    have h1 := tly_get (shN t h).1 (List.mem_range.1 hq)
    have h2 := tly_get (shN t h).2 (List.mem_range.1 hq)
    rw [this, h2] at h1
    simp [h1]
theorem bes_facts {t h : List Nat} (ht : Tow 6 t) (hh : Tow 6 h) : (besN t h).length = t.length + h.length ∧ ∀ x ∈ besN t h, x < 2 ^ (besN t h).length := by
  have hl := bes_len t h
  refine ⟨hl, fun x hx => ?_⟩
  rw [hl, Nat.pow_add]
  rcases List.mem_append.1 hx with h1 | h1
  · have := ht.lt x h1
    have h2 := Nat.two_pow_pos h.length
    exact Nat.lt_of_lt_of_le this (Nat.le_mul_of_pos_right _ h2)
  · obtain ⟨y, hy, rfl⟩ := List.mem_map.1 h1
    have := hh.lt y hy
    show y <<< t.length < _
    rw [Nat.shiftLeft_eq, Nat.mul_comm]
    exact Nat.mul_lt_mul_of_pos_left this (Nat.two_pow_pos _)
theorem shades_spec (t h : List Nat) (ht : Tow 6 t) (hh : Tow 6 h) : PCall Tryd.prog 62 [eNs t, eNs h] (.t .fz (.tup [eNs (shN t h).1, eNs (shN t h).2, eB (likeN t h)])) [] := by
  refine pcall_wp _ Tryd.func62 rfl (by kernel_rfl) rfl ?_
  have h6 := ht.le
  have h6' := hh.le
  have hp := ht.pos
  have hp' := hh.pos
  obtain ⟨hbl, hbs⟩ := bes_facts ht hh
  have h64 : 2 ^ h.length ≤ 2 ^ 6 := Nat.pow_le_pow_right (by decide) h6'
  have hbe := beside_spec t h h6 h6' fun x hx => Nat.lt_of_lt_of_le (hh.lt x hx) h64
  have hco := colours_spec (besN t h) (by omega) (by omega) hbs
  have hfu := colN_full (besN t h)
  have hle := full_le hfu
  have hcl := hfu.1
  have hne : (colN (besN t h)).1 ≠ [] := by
    intro e
    rw [e] at hcl
    simp at hcl
    omega
  have hdi := diff_spec (colN (besN t h)).1 hne fun x hx => by
    have := most_lt hx
    omega
  have e1 : (shN t h).1 = (colN (besN t h)).1.take t.length := rfl
  have e2 : (shN t h).2 = (colN (besN t h)).1.drop t.length := rfl
  have hL := like_tly t h
  rw [e1, e2] at hL ⊢
  clear e1 e2
  have ht1 := tally_spec ((colN (besN t h)).1.take t.length) (mostN (colN (besN t h)).1) (by omega) (fun x hx => most_lt (List.mem_of_mem_take hx)) (by simp; omega)
  have ht2 := tally_spec ((colN (besN t h)).1.drop t.length) (mostN (colN (besN t h)).1) (by omega) (fun x hx => most_lt (List.mem_of_mem_drop hx)) (by simp; omega)
  have heq := equal_spec (iL (tlyN ((colN (besN t h)).1.take t.length) (mostN (colN (besN t h)).1))) (iL (tlyN ((colN (besN t h)).1.drop t.length) (mostN (colN (besN t h)).1)))
  rw [← hL] at heq
  generalize likeN t h = b at *
  generalize tlyN ((colN (besN t h)).1.take t.length) (mostN (colN (besN t h)).1) = T1 at *
  generalize tlyN ((colN (besN t h)).1.drop t.length) (mostN (colN (besN t h)).1) = T2 at *
  generalize (colN (besN t h)).1 = C at *
  generalize (colN (besN t h)).2 = r at *
  have k1 : List.take t.length (List.map cI (iL C)) = List.map cI (iL (C.take t.length)) := by simp [iL, List.map_take]
  have k2 : List.drop t.length (List.map cI (iL C)) = List.map cI (iL (C.drop t.length)) := by simp [iL, List.map_drop]
  have k3 : (t.length : Int) ≤ C.length := by omega
  have k4 : List.take (C.length - t.length) (List.map cI (iL (C.drop t.length))) = List.map cI (iL (C.drop t.length)) := List.take_of_length_le (by simp)
  simp -dsimp
  first
    | refine CallG.by (hbe) ?_
    | refine CallGE.by (hbe) ?_
    | refine CallGB.by (hbe) ?_
  simp -dsimp
  first
    | refine CallG.by (hco) ?_
    | refine CallGE.by (hco) ?_
    | refine CallGB.by (hco) ?_
  simp -dsimp
  refine wk_draw 9 [] mixed (by kernel_rfl) ?_
  simp -dsimp [k1, k2, k3, k4]
  first
    | refine CallG.by (hdi) ?_
    | refine CallGE.by (hdi) ?_
    | refine CallGB.by (hdi) ?_
  simp -dsimp
  first
    | refine CallG.by (ht1) ?_
    | refine CallGE.by (ht1) ?_
    | refine CallGB.by (ht1) ?_
  simp -dsimp
  first
    | refine CallG.by (hdi) ?_
    | refine CallGE.by (hdi) ?_
    | refine CallGB.by (hdi) ?_
  simp -dsimp
  first
    | refine CallG.by (ht2) ?_
    | refine CallGE.by (ht2) ?_
    | refine CallGB.by (ht2) ?_
  simp -dsimp
  first
    | refine CallG.by (heq) ?_
    | refine CallGE.by (heq) ?_
    | refine CallGB.by (heq) ?_
  simp -dsimp
  refine retP_c ?_
  simp -dsimp
def alkF (g h : List Int) : TL := if isgB g && isgB h then .tup [eB (likeN (townOf g) (townOf h)), eI 0] else .tup [eB false, eI 2]
theorem alike_spec (g h : List Int) : PCall Tryd.prog 25 [eIs g, eIs h] (.t .fz (alkF g h)) [] := by
  have hbo := both_spec g h
  refine pcall_wp _ Tryd.func25 rfl (by kernel_rfl) rfl ?_
  rw [bothF] at hbo
  have hF : alkF g h = if isgB g && isgB h then .tup [eB (likeN (townOf g) (townOf h)), eI 0] else .tup [eB false, eI 2] := rfl
  have hsh : isgB g = true → isgB h = true → PCall Tryd.prog 62 [eIs g, eIs h] (.t .fz (.tup [eNs (shN (townOf g) (townOf h)).1, eNs (shN (townOf g) (townOf h)).2, eB (likeN (townOf g) (townOf h))])) [] := fun h1 h2 => by
    have := shades_spec (townOf g) (townOf h) (town_tow h1) (town_tow h2)
    rw [show eNs (townOf g) = eIs g by rw [eNs, town_back h1], show eNs (townOf h) = eIs h by rw [eNs, town_back h2]] at this
    exact this
  cases hg : isgB g <;> cases hh : isgB h
  all_goals
    rw [hg, hh] at hbo hF
    simp only [if_true, Bool.false_eq_true, if_false, Bool.and_true, Bool.and_false, Bool.true_and, Bool.false_and, Bool.and_self, nilT] at hbo hF
  · simp -dsimp
    first
      | refine CallG.by (hbo) ?_
      | refine CallGE.by (hbo) ?_
      | refine CallGB.by (hbo) ?_
    simp -dsimp
    refine retP_c ?_
    simp -dsimp [hF]
  · simp -dsimp
    first
      | refine CallG.by (hbo) ?_
      | refine CallGE.by (hbo) ?_
      | refine CallGB.by (hbo) ?_
    simp -dsimp
    refine retP_c ?_
    simp -dsimp [hF]
  · simp -dsimp
    first
      | refine CallG.by (hbo) ?_
      | refine CallGE.by (hbo) ?_
      | refine CallGB.by (hbo) ?_
    simp -dsimp
    refine retP_c ?_
    simp -dsimp [hF]
  · have hsh := hsh hg hh
    simp -dsimp
    first
      | refine CallG.by (hbo) ?_
      | refine CallGE.by (hbo) ?_
      | refine CallGB.by (hbo) ?_
    simp -dsimp
    first
      | refine CallG.by (hsh) ?_
      | refine CallGE.by (hsh) ?_
      | refine CallGB.by (hsh) ?_
    simp -dsimp
    refine retP_c ?_
    simp -dsimp [hF]
def refF (g : List Int) : TL := if isgB g then .tup [eNs (colN (townOf g)).1, eI ((colN (townOf g)).2 : Nat), eI 0] else .tup [nilT, eI 0, eI 2]
theorem refine_spec (g : List Int) : PCall Tryd.prog 24 [eIs g] (.t .fz (refF g)) [] := by
  have hre := read_spec g
  refine pcall_wp _ Tryd.func24 rfl (by kernel_rfl) rfl ?_
  rw [readF] at hre
  have hF : refF g = if isgB g then .tup [eNs (colN (townOf g)).1, eI ((colN (townOf g)).2 : Nat), eI 0] else .tup [nilT, eI 0, eI 2] := rfl
  cases hg : isgB g
  · rw [hg] at hre hF
    simp only [if_true, Bool.false_eq_true, if_false, nilT] at hre hF
    simp -dsimp
    first
      | refine CallG.by (hre) ?_
      | refine CallGE.by (hre) ?_
      | refine CallGB.by (hre) ?_
    simp -dsimp
    refine retP_c ?_
    simp -dsimp [hF]
  · rw [hg] at hre hF
    simp only [if_true] at hre hF
    have ht := town_tow hg
    have hco := colours_spec (townOf g) ht.pos (by have := ht.le; omega) ht.lt
    rw [show eNs (townOf g) = eIs g by rw [eNs, town_back hg]] at hco
    simp -dsimp
    first
      | refine CallG.by (hre) ?_
      | refine CallGE.by (hre) ?_
      | refine CallGB.by (hre) ?_
    simp -dsimp
    first
      | refine CallG.by (hco) ?_
      | refine CallGE.by (hco) ?_
      | refine CallGB.by (hco) ?_
    simp -dsimp
    refine retP_c ?_
    simp -dsimp [hF]
end Go.Proofs.YtfcbmcmkakceaaaDoor
