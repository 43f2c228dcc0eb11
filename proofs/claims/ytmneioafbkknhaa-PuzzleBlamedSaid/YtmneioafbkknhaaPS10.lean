/- PS10: append, and forgetting a name's mentions. -/
import Derived.Test.YtmneioafbkknhaaPS9
set_option linter.unusedVariables false
set_option linter.unusedSimpArgs false
namespace Go.PS
open Go Go.RowKit

def killT (m : Nat) (T : List (Nat × PV)) : List (Nat × PV) := T.map fun p => (p.1, if p.2.men m then .undef else p.2)
def Res.kill (m : Nat) : Res → Res
  | .blk ty cs => .blk ty (cs.map fun x => if x.men m then .undef else x)
  | r => r
def killM (m : Nat) (M : List (Nat × Res)) : List (Nat × Res) := M.map fun p => (p.1, p.2.kill m)
def StL.kill (s : StL) (m : Nat) : StL := ⟨killT m s.T, killM m s.M⟩

theorem getT_kill (m : Nat) : ∀ (T : List (Nat × PV)) (t : Nat), getT (killT m T) t = if (getT T t).men m then .undef else getT T t
  | [], t => by simp [killT, getT, PV.men]
  | (k, p) :: T, t => by
    have ih := getT_kill m T t
    by_cases e : k = t
    · simp [killT, getT, e]
    · simp only [killT] at ih
      simp [killT, getT, e, ih]

theorem getM_kill (m : Nat) : ∀ (M : List (Nat × Res)) (t : Nat), getM (killM m M) t = (getM M t).kill m
  | [], t => by simp [killM, getM, Res.kill]
  | (k, p) :: M, t => by
    simp only [killM, List.map_cons, getM]
    by_cases e : k = t
    · rw [if_pos e, if_pos e]
    · rw [if_neg e, if_neg e]; exact getM_kill m M t

theorem killT_men (m : Nat) : ∀ (T : List (Nat × PV)), (killT m T).all (fun p => !p.2.men m) = true
  | [] => rfl
  | (k, p) :: T => by
    simp only [killT, List.map_cons, List.all_cons, Bool.and_eq_true]
    refine ⟨?_, killT_men m T⟩
    cases h : p.men m <;> simp [h, PV.men]

theorem menL_kill (m : Nat) : ∀ (cs : List PV), PV.menL m (cs.map fun x => if x.men m then .undef else x) = false
  | [] => rfl
  | x :: cs => by
    simp only [List.map_cons, PV.menL, menL_kill m cs, Bool.or_false]
    cases h : x.men m <;> simp [h, PV.men]

theorem killM_men (m : Nat) : ∀ (M : List (Nat × Res)), (killM m M).all (fun p => !p.2.men m) = true
  | [] => rfl
  | (k, p) :: M => by
    simp only [killM, List.map_cons, List.all_cons, Bool.and_eq_true]
    refine ⟨?_, killM_men m M⟩
    cases p <;> simp [Res.kill, Res.men, menL_kill]

section
variable {P : Program} {w0 : Base} {F0 : Nat → Prop} {n : Nat} {s : StL} {a : Act} {w : World} {φ : Nat → Value} {fp : Nat → Nat → Prop}

theorem SimX.kill (h : SimX w0 F0 n s a w φ fp) (m : Nat) : SimX w0 F0 n (s.kill m) a w φ fp := by
  refine ⟨fun q => ?_, h.disj, h.old, fun t => ?_, h.evo, h.size, h.dfr, h.fix⟩
  · show ResRep _ _ _ (getM (killM m s.M) q) _ _
    rw [getM_kill]
    have := h.res q
    revert this
    generalize getM s.M q = r
    intro this
    cases r with
    | dead => exact this
    | row => exact this
    | blk ty cs =>
      obtain ⟨g, vs, hv, hF, hh, hs, hr⟩ := this
      refine ⟨g, vs, hv, hF, hh, by simp [hs], fun j x hx => ?_⟩
      rw [List.getElem?_map] at hx
      obtain ⟨y, hy, rfl⟩ := Option.map_eq_some_iff.1 hx
      split
      · exact .undef _
      · exact hr j y hy
  · show PVRep _ _ _ (getT (killT m s.T) t) _
    rw [getT_kill]
    split
    · exact .undef _
    · exact h.tmp t

/-- A name's row is replaced: its old block may have been written, what is new may lie in a new block. -/
theorem SimX.regrow (h : SimX w0 F0 n s a w φ fp) {m : Nat} (hm6 : m < 1000000) (hT : s.T.all (fun p => !p.2.men m) = true) (hM : s.M.all (fun p => !p.2.men m) = true) {w' : World} {v' : Value} {r' : Res} {F' : Nat → Prop}
    (ho : w'.os = w.os) (ht : w'.tape = w.tape) (hout : w'.output = w.output) (hsz : w.heap.size ≤ w'.heap.size) (hblk : ∀ g, g < w.heap.size → ¬ fp m g → w'.heap[g]? = w.heap[g]?)
    (hF' : ∀ g, F' g → (fp m g ∨ w.heap.size ≤ g) ∧ g < w'.heap.size)
    (hr : ∀ φ' fp', (∀ k g, Stb w0 w fp k g → Stb w0 w' fp' k g) → (∀ k g, Stb w0 w fp k g → w'.heap[g]? = w.heap[g]?) → ResRep w' φ' (Stb w0 w' fp') r' v' F') :
    ∃ φ' fp', SimX w0 F0 n ⟨s.T, (m, r') :: s.M⟩ a w' φ' fp' ∧ φ' m = v' := by
  let φ' : Nat → Value := fun q => if q = m then v' else φ q
  let fp' : Nat → Nat → Prop := fun q g => if q = m then F' g else fp q g
  have hne : ∀ q, q ≠ m → φ' q = φ q := fun q hq => by simp [φ', hq]
  have hS : ∀ k g, Stb w0 w fp k g → Stb w0 w' fp' k g := by
    intro k g hg
    refine ⟨Nat.lt_of_lt_of_le hg.1 hsz, fun q hq => ?_, hg.2.2⟩
    simp only [fp'] at hq
    by_cases e : q = m
    · rw [if_pos e] at hq
      rcases (hF' g hq).1 with h1 | h1
      · exact hg.2.1 m h1
      · have := hg.1; omega
    · rw [if_neg e] at hq; exact hg.2.1 q hq
  have hSc : ∀ k g, Stb w0 w fp k g → w'.heap[g]? = w.heap[g]? := fun k g hg => hblk g hg.1 (hg.2.1 m)
  refine ⟨φ', fp', ⟨fun q => ?_, fun q q' g h1 h2 => ?_, fun q g hq => ?_, fun t => ?_, ?_, h.size, h.dfr, fun q hq => (hne q (by omega)).trans (h.fix q hq)⟩, by simp [φ']⟩
  · show ResRep _ _ _ (getM ((m, r') :: s.M) q) _ _
    simp only [getM]
    by_cases e : m = q
    · subst e
      rw [if_pos rfl]
      have e1 : fp' m = F' := by funext g; simp [fp']
      have e2 : φ' m = v' := by simp [φ']
      rw [e1, e2]
      exact hr φ' fp' hS hSc
    · rw [if_neg e]
      have e1 : fp' q = fp q := by funext g; simp [fp', Ne.symm e]
      rw [e1, hne q (Ne.symm e)]
      refine ((h.res q).keep (fun g hg => hblk g (h.old q g hg).1 fun hm => e (h.disj m q g hm hg)) hSc hS).rename fun q' hq' => hne q' ?_
      rintro rfl
      have := getM_men hM q
      rw [this] at hq'; cases hq'
  · simp only [fp'] at h1 h2
    by_cases e1 : q = m <;> by_cases e2 : q' = m
    · rw [e1, e2]
    · rw [if_pos e1] at h1; rw [if_neg e2] at h2
      rcases (hF' g h1).1 with h3 | h3
      · exact absurd (h.disj q' m g h2 h3) e2
      · have := (h.old q' g h2).1; omega
    · rw [if_neg e1] at h1; rw [if_pos e2] at h2
      rcases (hF' g h2).1 with h3 | h3
      · exact absurd (h.disj q m g h1 h3) e1
      · have := (h.old q g h1).1; omega
    · rw [if_neg e1] at h1; rw [if_neg e2] at h2
      exact h.disj q q' g h1 h2
  · simp only [fp'] at hq
    by_cases e1 : q = m
    · rw [if_pos e1] at hq
      obtain ⟨h3, h4⟩ := hF' g hq
      refine ⟨h4, ?_⟩
      rcases h3 with h3 | h3
      · exact (h.old m g h3).2
      · have := h.evo.size; exact .inr (by omega)
    · rw [if_neg e1] at hq
      have := h.old q g hq
      exact ⟨by omega, this.2⟩
  · refine ((h.tmp t).mono hSc hS).rename fun q' hq' => hne q' ?_
    rintro rfl
    have := getT_men hT t
    rw [this] at hq'; cases hq'
  · refine ⟨ho.trans h.evo.os, ht.trans h.evo.tape, hout.trans h.evo.output, Nat.le_trans h.evo.size hsz, fun g hg hF => ?_⟩
    refine (hblk g (Nat.lt_of_lt_of_le hg h.evo.size) fun hm => ?_).trans (h.evo.block g hg hF)
    rcases (h.old m g hm).2 with h1 | h1
    · exact hF h1
    · omega

/-- What is appended. -/
def srcPV (s : StL) (sz : Nat) : PV → Option (Kind × List (List TL))
  | .t k (.sl _ sz' ys) => if sz' = sz ∧ ys.all (fun e => e.all TL.leaf) = true then some (k, ys) else none
  | .t _ (.v (.slice none 0 0)) => some (.fz, [])
  | .osl m => match getM s.M m with
    | .row _ sz' k ys => if sz' = sz ∧ ys.all (fun e => e.all TL.leaf) = true then some (k, ys) else none
    | _ => none
  | _ => none

theorem idx_div {sz p len : Nat} (hsz : 0 < sz) (h : p < len * sz) : p / sz < len ∧ p % sz < sz ∧ p = p / sz * sz + p % sz :=
  ⟨Nat.div_lt_of_lt_mul (by rw [Nat.mul_comm]; exact h), Nat.mod_lt _ hsz, by have := Nat.div_add_mod p sz; rw [Nat.mul_comm]; exact this.symm⟩

theorem cells_one {S : Nat → Prop} {sz : Nat} {ys : List (List TL)} {news : List Value} (hsz : 0 < sz) (hl : ∀ e ∈ ys, e.length = sz) (hleaf : ys.all (fun e => e.all TL.leaf) = true) (hn : news.length = ys.length * sz)
    (hr : ∀ (i j : Nat) (e : List TL) (x : TL), ys[i]? = some e → e[j]? = some x → TRep w S x (news.getD (i * sz + j) Go.undef)) : ∀ u ∈ news, u.oneCell' = true := by
  intro u hu
  obtain ⟨p, hp⟩ := List.getElem?_of_mem hu
  have hlt := (List.getElem?_eq_some_iff.1 hp).1
  obtain ⟨h1, h2, h3⟩ := idx_div (p := p) (len := ys.length) hsz (by omega)
  have he : ys[p / sz]? = some ys[p / sz] := List.getElem?_eq_getElem h1
  have hel := hl _ (List.mem_of_getElem? he)
  have hx : (ys[p / sz])[p % sz]? = some (ys[p / sz])[p % sz] := List.getElem?_eq_getElem (by omega)
  have := hr _ _ _ _ he hx
  rw [← h3, List.getD_eq_getElem?_getD, hp] at this
  refine this.leaf_one ?_
  have h5 := List.all_eq_true.1 hleaf _ (List.mem_of_getElem? he)
  exact List.all_eq_true.1 h5 _ (List.mem_of_getElem? hx)

theorem srcPV_rep (h : SimX w0 F0 n s a w φ fp) {sz : Nat} (hsz : 0 < sz) {p : PV} {u : Value} {k : Kind} {ys : List (List TL)} (hu : PVRep w φ (Stb w0 w fp) p u) (hq : srcPV s sz p = some (k, ys)) :
    ∃ ao c, u = .slice ao ys.length c ∧ ys.length ≤ 140737488355328 ∧ (∀ e ∈ ys, e.length = sz) ∧ (ys = [] ∨ ∃ A, ao = some A) ∧
      ∃ news : List Value, news.length = ys.length * sz ∧ (∀ A, ao = some A → ∀ j v, news[j]? = some v → w.cell? (A.add j) = some v) ∧ (∀ u ∈ news, u.oneCell' = true) ∧
        ∀ (i j : Nat) (e : List TL) (x : TL), ys[i]? = some e → e[j]? = some x → TRep w (Stb w0 w fp k) x (news.getD (i * sz + j) Go.undef) := by
  unfold srcPV at hq
  split at hq
  · rename_i k' f sz' ys'
    split at hq
    · rename_i hc
      obtain ⟨rfl, hleaf⟩ := hc
      cases hq
      cases hu.t_inv with
      | @sl _ _ _ ao cap g hcap ht hnn hnil hbd ha hlen hrep =>
      rcases ha with rfl | ⟨b, o, rfl, hb, hc⟩
      · refine ⟨ao, cap, rfl, hbd, hlen, .inl rfl, [], by simp, fun A _ j v hv => by simp at hv, fun u hu => by simp at hu, fun i j e x he => by simp at he⟩
      · have hnews : ∀ (i j : Nat) (e : List TL) (x : TL), ys[i]? = some e → e[j]? = some x → TRep w (Stb w0 w fp k) x (((List.range (ys.length * sz')).map fun p => g (p / sz') (p % sz')).getD (i * sz' + j) Go.undef) := by
          intro i j e x he hx
          have hi := (List.getElem?_eq_some_iff.1 he).1
          have hj := (List.getElem?_eq_some_iff.1 hx).1
          rw [hlen e (List.mem_of_getElem? he)] at hj
          have hmul : (i + 1) * sz' ≤ ys.length * sz' := Nat.mul_le_mul_right _ hi
          rw [Nat.add_mul] at hmul
          rw [List.getD_eq_getElem?_getD, List.getElem?_map, List.getElem?_range (by omega)]
          have e1 : (i * sz' + j) / sz' = i := by rw [Nat.mul_comm, Nat.mul_add_div hsz, Nat.div_eq_of_lt hj, Nat.add_zero]
          have e2 : (i * sz' + j) % sz' = j := by rw [Nat.mul_comm, Nat.mul_add_mod]; exact Nat.mod_eq_of_lt hj
          simp only [Option.map_some, Option.getD_some, e1, e2]
          exact hrep i j e x he hx
        refine ⟨_, cap, rfl, hbd, hlen, .inr ⟨_, rfl⟩, (List.range (ys.length * sz')).map fun p => g (p / sz') (p % sz'), by simp, fun A hA j v hv => ?_, cells_one hsz hlen hleaf (by simp) hnews, hnews⟩
        cases hA
        rw [List.getElem?_map] at hv
        obtain ⟨q, hq, rfl⟩ := Option.map_eq_some_iff.1 hv
        obtain ⟨hlt, rfl⟩ := List.getElem?_eq_some_iff.1 hq
        simp only [List.length_range] at hlt
        obtain ⟨h1, h2, h3⟩ := idx_div hsz hlt
        simp only [List.getElem_range]
        rw [addr_add]
        have := hc _ _ h1 h2
        rwa [← h3] at this
    · cases hq
  · cases hq
    have := hu.t_inv.v_inv
    exact ⟨none, 0, this, by simp, by simp, .inl rfl, [], by simp, fun A hA => (by cases hA), fun u hu => by simp at hu, fun i j e x he => by simp at he⟩
  · rename_i m
    split at hq
    · rename_i ty sz' k' ys' hM
      split at hq
      · rename_i hc
        obtain ⟨rfl, hleaf⟩ := hc
        cases hq
        cases hu with
        | @osl _ len cap ao hφ =>
        have hres := h.res m
        rw [hM] at hres
        obtain ⟨cells, hown, hbd, hlen, hrep⟩ := hres
        rw [hφ] at hown
        rcases hown with ⟨hown, hF⟩ | ⟨rfl, ⟨ao', hv⟩, _⟩
        · rcases hown.2 with ⟨hv, hz⟩ | ⟨g, cap', cur, hv, _⟩
          · cases hv
            have hy : ys = [] := List.eq_nil_of_length_eq_zero hz
            subst hy
            exact ⟨none, 0, rfl, by simp, by simp, .inl rfl, [], by simp, fun A hA => (by cases hA), fun u hu => by simp at hu, fun i j e x he => by simp at he⟩
          · cases hv
            refine ⟨_, _, rfl, hbd, hlen, .inr ⟨_, rfl⟩, cells, hown.1, fun A hA j v hv => ?_, cells_one hsz hlen hleaf hown.1 hrep, hrep⟩
            cases hA
            exact hown.cells (g := g) rfl j v hv
        · cases hv
          exact ⟨ao, 0, rfl, by simp, by simp, .inl rfl, [], by simp, fun A hA j v hv => by simp at hv, fun u hu => by simp at hu, fun i j e x he => by simp at he⟩
      · cases hq
    · cases hq
  · cases hq

/-- Nothing is appended. -/
theorem run_append_zero {t e : Nat} (ht : P.underlying t = some (.slice e)) {sz : Nat} (hs : szT P e = some sz) (ty : Nat) (b : Option Addr) (len cap : Nat) (hle : len ≤ cap) (b' : Option Addr) (c : Nat) (w : World) :
    (Builtin.append_ #[t, t] ty #[.slice b len cap, .slice b' 0 c]).run P w = .ok (.slice b len cap) w := by
  have hf : (Builtin.firstCells sz 0 (.slice b' 0 c)).run P w = .ok #[] w := by
    cases b' <;> simp [Builtin.firstCells, loadCells, loadCellsFrom]
  cases b <;> simp [Builtin.append_, run_underlying ht, szT_run hs, Builtin.lenOf, hle, hf, storeCells]

/-- An append to a row of our own. -/
theorem append_own {t e sz by_ : Nat} {z : Value} (ht : P.underlying t = some (.slice e)) (i : TypeInfo) (hi : P.info? e = some i) (hz : i.zero = some z) (hsize : i.size = sz) (hby : i.bytes = by_) (hzs : z.cells.size = sz) (hsz : 0 < sz) (hbp : 0 < by_) (ty : Nat)
    {v : Value} {nx : Nat} {cells : List Value} (hv : w.ownsRow 0 e sz v nx cells)
    {ao : Option Addr} {m c : Nat} {news : List Value} (hao : m = 0 ∨ ∃ A, ao = some A) (hl : news.length = m * sz) (hn : ∀ A, ao = some A → ∀ j u, news[j]? = some u → w.cell? (A.add j) = some u) (h1 : ∀ u ∈ news, u.oneCell' = true)
    (hbytes : (nx + m) * by_ ≤ 140737488355328) :
    ∃ v' w', (Builtin.append_ #[t, t] ty #[v, .slice ao m c]).run P w = .ok v' w' ∧ w'.ownsRow 0 e sz v' (nx + m) (cells ++ news) ∧ w.grownBy w' v.ownBlock ∧ (v'.ownBlock = v.ownBlock ∨ v'.ownBlock = some w.heap.size) := by
  have hlen : nx + m ≤ 140737488355328 := Nat.le_trans (Nat.le_mul_of_pos_right _ hbp) hbytes
  have hszT : szT P e = some sz := by simp [szT, hi, hsize]
  rcases Nat.eq_zero_or_pos m with rfl | hm
  · have hnews : news = [] := List.eq_nil_of_length_eq_zero (by simpa using hl)
    subst hnews
    obtain ⟨b, cap, rfl, hle⟩ : ∃ b cap, v = .slice b nx cap ∧ nx ≤ cap := by
      rcases hv.2 with ⟨rfl, h0⟩ | ⟨g, cap, cur, rfl, _, _, hc, _⟩
      · exact ⟨none, 0, by rw [h0], by omega⟩
      · exact ⟨_, cap, rfl, hc⟩
    exact ⟨_, w, run_append_zero ht hszT ty b nx cap hle ao c w, by simpa using hv, ⟨rfl, rfl, rfl, Nat.le_refl _, fun _ _ _ => rfl⟩, .inl rfl⟩
  · obtain ⟨A, rfl⟩ := hao.resolve_left (by omega)
    obtain ⟨v', w', hr, h2, h3, _, h5⟩ := run_append_own_at (P := P) w 0 t ty e i z sz by_ ht hi hz hsize hby hzs hsz v nx cells hv A m c news hl (hn A rfl) h1 (by simp only [maxLen]; omega) hbytes (Nat.zero_le _)
    exact ⟨v', w', hr, h2, h3, h5⟩

/-- An append to a slice without room. -/
theorem append_grow {t e sz by_ : Nat} {z : Value} (ht : P.underlying t = some (.slice e)) (i : TypeInfo) (hi : P.info? e = some i) (hz : i.zero = some z) (hsize : i.size = sz) (hby : i.bytes = by_) (hzs : z.cells.size = sz) (hsz : 0 < sz) (hbp : 0 < by_) (ty : Nat)
    {bo : Option Addr} {nx : Nat} {cells : List Value} (hbo : nx = 0 ∨ ∃ B, bo = some B) (hcl : cells.length = nx * sz) (hcells : ∀ B, bo = some B → ∀ j u, cells[j]? = some u → w.cell? (B.add j) = some u)
    {A : Addr} {m c : Nat} {news : List Value} (hm : 0 < m) (hl : news.length = m * sz) (hn : ∀ j u, news[j]? = some u → w.cell? (A.add j) = some u)
    (hbytes : (nx + m) * by_ ≤ 140737488355328) :
    ∃ v' w', (Builtin.append_ #[t, t] ty #[.slice bo nx nx, .slice (some A) m c]).run P w = .ok v' w' ∧ w'.ownsRow 0 e sz v' (nx + m) (cells ++ news) ∧ w.grownBy w' none ∧ v'.ownBlock = some w.heap.size := by
  subst hsize
  subst hby
  have hlen : nx + m ≤ 140737488355328 := Nat.le_trans (Nat.le_mul_of_pos_right _ hbp) hbytes
  have hge := grownCap_ge w (nx + m) nx e
  have hcm : grownCap w (nx + m) nx e ≤ maxLen := grownCap_le_maxLen w (nx + m) nx e (by simp only [maxLen]; omega)
  have fin : (w.drew.alloc (.cells (cells.toArray ++ news.toArray ++ Builtin.zeroCells z.cells (grownCap w (nx + m) nx e - (nx + m))) e)).ownsRow 0 e i.size
      (.slice (some ⟨w.heap.size, 0, none⟩) (nx + m) (grownCap w (nx + m) nx e)) (nx + m) (cells ++ news) := by
    have hlen' : (cells ++ news).length = (nx + m) * i.size := by rw [List.length_append, hcl, hl, Nat.add_mul]
    refine ⟨hlen', .inr ⟨w.heap.size, _, _, rfl, Nat.zero_le _, heap_alloc_new w.drew _, hge, hcm, ?_, ?_⟩⟩
    · simp only [Array.size_append, List.size_toArray, size_zeroCells, hzs, hl, hcl, ← Nat.add_mul]
      congr 1
      omega
    · simp only [Array.toList_append, List.append_assoc]
      rw [← List.append_assoc, ← hlen']
      exact List.take_left
  have hgr : w.grownBy (w.drew.alloc (.cells (cells.toArray ++ news.toArray ++ Builtin.zeroCells z.cells (grownCap w (nx + m) nx e - (nx + m))) e)) none :=
    ⟨rfl, rfl, rfl, by simp, fun k hk _ => Below.heap_alloc w.drew _ k hk⟩
  cases bo with
  | some B =>
    have hr := run_append_grow (P := P) w t ty e i z ht hi hz B nx nx cells hcl (hcells B rfl) A m c news hl hn (by omega) (by omega) (growslice_fits (by omega) hbytes)
    exact ⟨_, _, hr, fin, hgr, rfl⟩
  | none =>
    obtain rfl : nx = 0 := hbo.resolve_right (by simp)
    have hc : cells = [] := List.eq_nil_of_length_eq_zero (by simpa using hcl)
    subst hc
    have hr := run_append_nil (P := P) w t ty e i z ht hi hz A m c news hl hn hm (by omega) (by simp only [Nat.zero_add] at hbytes; omega)
    simp only [Nat.zero_add, List.nil_append, Array.empty_append] at fin hgr ⊢
    exact ⟨_, _, hr, fin, hgr, rfl⟩

end
end Go.PS
