/- PS7: new blocks (a variable, a boxed value), writes, literals. -/
import Derived.Test.YtmneioafbkknhaaPS6
set_option linter.unusedVariables false
set_option linter.unusedSimpArgs false
namespace Go.PS
open Go Go.RowKit

def TL.leaf : TL → Bool
  | .v x => x.oneCell'
  | .sl _ _ _ => true
  | .rp _ _ => true
  | .clo _ _ => true
  | _ => false

def cellsPV : PV → Option (List PV)
  | .agg cs => some cs
  | .t k (.agg cs) => some (cs.map (PV.t k))
  | .t k x => if x.leaf then some [.t k x] else none
  | .tup _ => none
  | .undef => none
  | p => some [p]

def Kind.join (k k' : Kind) : Kind := match k, k' with
  | .fz, .fz => .fz
  | _, _ => .ro

def lowerPV : PV → Option (Kind × TL)
  | .t _ (.v x) => if x.oneCell' then some (.fz, .v x) else none
  | .t k x => if x.leaf then some (k, x) else none
  | _ => none

def lowerL : List PV → Option (Kind × List TL)
  | [] => some (.fz, [])
  | p :: l => match lowerPV p, lowerL l with
    | some (k, x), some (k', xs) => some (k.join k', x :: xs)
    | _, _ => none

def spl {α : Type} (cs : List α) (off : Nat) (ps : List α) : List α := cs.take off ++ ps ++ cs.drop (off + ps.length)
def upd {α : Type} (cs : List α) (off : Nat) (ps : List α) : List α := match ps with
  | [x] => cs.set off x
  | ps => spl cs off ps

theorem spl_get {α : Type} {cs ps : List α} {off : Nat} (h : off + ps.length ≤ cs.length) (i : Nat) : (spl cs off ps)[i]? = if off ≤ i ∧ i < off + ps.length then ps[i - off]? else cs[i]? := by
  unfold spl
  rw [List.append_assoc]
  by_cases h1 : i < off
  · rw [List.getElem?_append_left (by simp; omega), List.getElem?_take, if_pos h1, if_neg (by omega)]
  · rw [List.getElem?_append_right (by simp; omega)]
    have hl : (cs.take off).length = off := by simp; omega
    rw [hl]
    by_cases h2 : i < off + ps.length
    · rw [List.getElem?_append_left (by omega), if_pos ⟨by omega, h2⟩]
    · rw [List.getElem?_append_right (by omega), if_neg (by omega), List.getElem?_drop]
      congr 1
      omega

theorem spl_length {α : Type} {cs ps : List α} {off : Nat} (h : off + ps.length ≤ cs.length) : (spl cs off ps).length = cs.length := by
  unfold spl; simp; omega

theorem upd_get {α : Type} {cs ps : List α} {off : Nat} (h : off + ps.length ≤ cs.length) (i : Nat) : (upd cs off ps)[i]? = if off ≤ i ∧ i < off + ps.length then ps[i - off]? else cs[i]? := by
  unfold upd
  split
  · rename_i x
    simp only [List.length_cons, List.length_nil, Nat.zero_add] at h ⊢
    by_cases e : off = i
    · subst e
      rw [List.getElem?_set_self (by omega), if_pos (by omega)]
      simp
    · rw [List.getElem?_set_ne e, if_neg (by omega)]
  · exact spl_get h i

theorem upd_length {α : Type} {cs ps : List α} {off : Nat} (h : off + ps.length ≤ cs.length) : (upd cs off ps).length = cs.length := by
  unfold upd
  split
  · simp
  · exact spl_length h

theorem Stb.weak {w0 : Base} {w : World} {fp : Nat → Nat → Prop} {k k' : Kind} {g : Nat} (h : Stb w0 w fp (k.join k') g ∨ Stb w0 w fp k g) : Stb w0 w fp .ro g := by
  rcases h with h | h <;> exact ⟨h.1, h.2.1, h.2.2.imp id fun e => ⟨rfl, e.2⟩⟩

theorem TRep.join {w0 : Base} {w : World} {fp : Nat → Nat → Prop} {k : Kind} {x : TL} {v : Value} (h : TRep w (Stb w0 w fp k) x v) (k' : Kind) : TRep w (Stb w0 w fp (k.join k')) x v := by
  refine h.mono (fun _ _ => rfl) fun g hg => ?_
  cases k <;> cases k' <;> first | exact hg | exact ⟨hg.1, hg.2.1, hg.2.2.imp id fun e => ⟨rfl, e.2⟩⟩

theorem Kind.join_comm (k k' : Kind) : k.join k' = k'.join k := by cases k <;> cases k' <;> rfl

section
variable {P : Program} {w0 : Base} {F0 : Nat → Prop} {n : Nat} {s : StL} {a : Act} {w : World} {φ : Nat → Value} {fp : Nat → Nat → Prop}

theorem TRep.leaf_one {S : Nat → Prop} {x : TL} {v : Value} (h : TRep w S x v) (hl : x.leaf = true) : v.oneCell' = true := by
  cases h <;> simp_all [TL.leaf, Value.oneCell']

theorem oneCell_cells {v : Value} (h : v.oneCell' = true) : v.cells = #[v] := by
  cases v <;> simp_all [Value.oneCell', Value.cells]

theorem cellsPV_rep {St : Kind → Nat → Prop} {p : PV} {u : Value} {cs : List PV} (hu : PVRep w φ St p u) (hc : cellsPV p = some cs) :
    u.cells.size = cs.length ∧ ∀ (j : Nat) (x : PV), cs[j]? = some x → PVRep w φ St x (u.cells.getD j Go.undef) := by
  unfold cellsPV at hc
  split at hc
  · cases hc
    cases hu with
    | agg vs hs hrep => exact ⟨hs, hrep⟩
  · cases hc
    cases hu.t_inv with
    | agg vs hs hrep =>
      refine ⟨by simp [Value.cells, hs], fun j x hx => ?_⟩
      rw [List.getElem?_map] at hx
      obtain ⟨y, hy, rfl⟩ := Option.map_eq_some_iff.1 hx
      exact .t (hrep _ _ hy)
  · split at hc
    · rename_i hl
      cases hc
      have h1 := oneCell_cells (hu.t_inv.leaf_one hl)
      rw [h1]
      refine ⟨by simp, fun j x hx => ?_⟩
      cases j with
      | zero => simp at hx; subst hx; simpa using hu
      | succ j => simp at hx
    · cases hc
  · cases hc
  · cases hc
  · rename_i h1 h2 h3 h4 h5
    cases hc
    have h1 : u.cells = #[u] := by
      cases hu with
      | t h => exact absurd rfl (h3 _ _)
      | agg => exact absurd rfl (h1 _)
      | tup => exact absurd rfl (h4 _)
      | undef => exact absurd rfl h5
      | ptr => rfl
      | osl => rfl
      | oep => rfl
      | omp => rfl
      | clo => rfl
    rw [h1]
    refine ⟨by simp, fun j x hx => ?_⟩
    cases j with
    | zero => simp at hx; subst hx; simpa using hu
    | succ j => simp at hx

theorem menL_map (k : Kind) (d : Nat) : ∀ cs : List TL, PV.menL d (cs.map (PV.t k)) = false
  | [] => rfl
  | c :: cs => by simp [PV.menL, PV.men, menL_map k d cs]

theorem cellsPV_men {p : PV} {cs : List PV} {d : Nat} (hc : cellsPV p = some cs) (hm : p.men d = false) : PV.menL d cs = false := by
  unfold cellsPV at hc
  split at hc
  · cases hc; simpa [PV.men] using hm
  · cases hc; exact menL_map _ _ _
  · split at hc
    · cases hc; simp [PV.menL, PV.men]
    · cases hc
  · cases hc
  · cases hc
  · cases hc; simp [PV.menL, hm]

theorem ev_men {d : Nat} (h : s.free d = true) (x : Operand) : (ev s x).men d = false := by
  simp only [StL.free, Bool.and_eq_true] at h
  cases x with
  | tmp t => exact getT_men h.1.1 t
  | const v => cases v <;> rfl
  | func f => simp [ev, PV.men, PV.menL]
  | global g => rfl

/-- A boxed value, a variable: block and name. -/
theorem SimX.newBlk (h : SimX w0 F0 n s a w φ fp) {d : Nat} (hd : s.free d = true) (hdn : d < n) (ty : Nat) {vs : Array Value} {cs : List PV} (hs : vs.size = cs.length) (hm : PV.menL d cs = false)
    (hr : ∀ (j : Nat) (x : PV), cs[j]? = some x → PVRep w φ (Stb w0 w fp) x (vs.getD j Go.undef)) :
    Sim w0 F0 n ⟨(d, .ptr d 0) :: s.T, (d, .blk ty cs) :: s.M⟩ (a.put (some d) (.pointer (some ⟨w.heap.size, 0, none⟩))) (w.alloc (.cells vs ty)) := by
  obtain ⟨φ', fp', h', hne, hv⟩ := h.new hd (o := .cells vs ty) (r := .blk ty cs) (v := .pointer (some ⟨w.heap.size, 0, none⟩)) (by
    intro φ' fp' hne hv hS hSc
    refine ⟨w.heap.size, vs, rfl, fun _ => Iff.rfl, heap_alloc_new w _, hs, fun j x hx => ((hr j x hx).mono hSc hS).rename fun m hm' => hne m ?_⟩
    rintro rfl
    rw [PV.menL_get hx hm] at hm'
    cases hm')
  exact ⟨φ', fp', h'.put hdn (.ptr hv)⟩

theorem run_newVar {t : Nat} (v : Value) (w : World) : (newVar t v).run P w = .ok ⟨w.heap.size, 0, none⟩ (w.alloc (.cells v.cells t)) := by
  simp [newVar, newRow]

def zT (P : Program) (t : Nat) : Option (List Value) := ((P.info? t).bind (·.zero)).map fun z => z.cells.toList

theorem zT_run {t : Nat} {l : List Value} (h : zT P t = some l) (w : World) : ∃ z : Value, (zeroValue t).run P w = .ok z w ∧ z.cells.toList = l := by
  unfold zT at h
  obtain ⟨z, hz, rfl⟩ := Option.map_eq_some_iff.1 h
  obtain ⟨i, hi, hz⟩ := Option.bind_eq_some_iff.1 hz
  exact ⟨z, by simp [zeroValue, typeInfo, hi, hz], rfl⟩

end

/-- What a store leaves. -/
def storePV (P : Program) (s : StL) (t : Nat) (p v : PV) : Option StL :=
  match cellsPV v, szT P t with
  | some us, some sz =>
    if us.length = sz then
      match p with
      | .ptr m off => match getM s.M m with
        | .blk ty cs => if off + us.length ≤ cs.length ∧ us.all (fun p => match p with | .t _ x => x.leaf | .agg _ => false | .tup _ => false | .undef => false | _ => true) then some ⟨s.T, (m, .blk ty (upd cs off us)) :: s.M⟩ else none
        | _ => none
      | .oep m sz' i off => match getM s.M m, lowerL us with
        | .row ty sz'' k xs, some (k', es) =>
          if sz' = sz'' ∧ i < xs.length ∧ off + es.length ≤ sz' then some ⟨s.T, (m, .row ty sz'' (k.join k') (xs.set i (upd (xs.getD i []) off es))) :: s.M⟩ else none
        | _, _ => none
      | _ => none
    else none
  | _, _ => none

section
variable {P : Program} {w0 : Base} {F0 : Nat → Prop} {n : Nat} {s : StL} {a : Act} {w : World} {φ : Nat → Value} {fp : Nat → Nat → Prop}

theorem lowerPV_rep {p : PV} {u : Value} {k : Kind} {x : TL} (hu : PVRep w φ (Stb w0 w fp) p u) (hl : lowerPV p = some (k, x)) : TRep w (Stb w0 w fp k) x u ∧ u.oneCell' = true := by
  unfold lowerPV at hl
  split at hl
  · split at hl
    · cases hl
      have := hu.t_inv.v_inv
      subst this
      exact ⟨.v _, by assumption⟩
    · cases hl
  · split at hl
    · rename_i hlf
      cases hl
      exact ⟨hu.t_inv, hu.t_inv.leaf_one hlf⟩
    · cases hl
  · cases hl

theorem lowerL_rep : ∀ {ps : List PV} {k : Kind} {xs : List TL} {us : Nat → Value}, (∀ (j : Nat) (x : PV), ps[j]? = some x → PVRep w φ (Stb w0 w fp) x (us j)) → lowerL ps = some (k, xs) →
    xs.length = ps.length ∧ (∀ (j : Nat) (x : TL), xs[j]? = some x → TRep w (Stb w0 w fp k) x (us j)) ∧ ∀ j, j < ps.length → (us j).oneCell' = true
  | [], k, xs, us, hr, hl => by
    simp only [lowerL, Option.some.injEq, Prod.mk.injEq] at hl
    obtain ⟨rfl, rfl⟩ := hl
    exact ⟨rfl, fun j x hx => by simp at hx, fun j hj => by simp at hj⟩
  | p :: ps, k, xs, us, hr, hl => by
    simp only [lowerL] at hl
    split at hl
    · rename_i k1 x k2 xs' h1 h2
      simp only [Option.some.injEq, Prod.mk.injEq] at hl
      obtain ⟨rfl, rfl⟩ := hl
      obtain ⟨hl2, hr2, ho2⟩ := lowerL_rep (us := fun j => us (j + 1)) (fun j x hx => hr (j + 1) x (by simpa using hx)) h2
      obtain ⟨hr1, ho1⟩ := lowerPV_rep (hr 0 p (by simp)) h1
      refine ⟨by simp [hl2], fun j x' hx => ?_, fun j hj => ?_⟩
      · cases j with
        | zero => simp at hx; subst hx; exact hr1.join _
        | succ j => rw [Kind.join_comm]; exact (hr2 j x' (by simpa using hx)).join _
      · cases j with
        | zero => exact ho1
        | succ j => exact ho2 j (by simpa using hj)
    · cases hl

theorem run_storeVar_row {t g off sz : Nat} {ty : Nat} {cur : Array Value} {v : Value} (hs : szT P t = some sz) (hv : v.cells.size = sz) (hg : w.heap[g]? = some (.cells cur ty (0, 0))) (hle : off + sz ≤ cur.size)
    (h1 : ∀ u ∈ v.cells.toList, u.oneCell' = true) :
    (storeVar t ⟨g, off, none⟩ v).run P w = .ok () (w.setRow g (spl cur.toList off v.cells.toList).toArray) := by
  have := run_storeCells_at P g off ty v.cells.toList 0 cur w hg (by simp; omega) h1
  simp only [Nat.add_zero] at this
  simp only [storeVar, Sem.run_bind, szT_run hs, Result.andThen_ok, hv]
  simp [this, spl]

theorem leafAll {us : List PV} (h : us.all (fun p => match p with | .t _ x => x.leaf | .agg _ => false | .tup _ => false | .undef => false | _ => true) = true) {v : Value}
    (hs : v.cells.size = us.length) (hr : ∀ (j : Nat) (x : PV), us[j]? = some x → PVRep w φ (Stb w0 w fp) x (v.cells.getD j Go.undef)) : ∀ u ∈ v.cells.toList, u.oneCell' = true := by
  intro u hu
  obtain ⟨j, hj⟩ := List.getElem?_of_mem hu
  rw [Array.getElem?_toList] at hj
  have hlt : j < v.cells.size := (Array.getElem?_eq_some_iff.1 hj).1
  have hx : us[j]? = some us[j] := List.getElem?_eq_getElem (by omega)
  have hd : v.cells.getD j Go.undef = u := by simp [Array.getD_eq_getD_getElem?, hj]
  have := hr j _ hx
  rw [hd] at this
  have hl := (List.all_eq_true.1 h) _ (List.getElem_mem (l := us) (by omega : j < us.length))
  generalize us[j] = p at this hl
  cases this with
  | t h => exact h.leaf_one hl
  | ptr => rfl
  | osl => rfl
  | oep => rfl
  | omp => rfl
  | clo => rfl
  | agg => simp at hl
  | tup => simp at hl
  | undef => simp at hl

theorem storePV_run (h : SimX w0 F0 n s a w φ fp) {t : Nat} {p v : PV} {up uv : Value} {s' : StL} (hp : PVRep w φ (Stb w0 w fp) p up) (hv : PVRep w φ (Stb w0 w fp) v uv) (hq : storePV P s t p v = some s') :
    ∃ w', (Instr.storeAt t up uv).run P w = .ok () w' ∧ SimX w0 F0 n s' a w' φ fp := by
  unfold storePV at hq
  split at hq
  · rename_i us sz hus hsz
    obtain ⟨hsize, hcell⟩ := cellsPV_rep hv hus
    split at hq
    · rename_i hlen
      split at hq
      · rename_i m off
        cases hp with
        | @ptr _ _ g hφ =>
        split at hq
        · rename_i ty cs hM
          split at hq
          · rename_i hcond
            obtain ⟨hle, hleaf⟩ := hcond
            cases hq
            have hres := h.res m
            rw [hM] at hres
            obtain ⟨g', vs, hvv, hF, hh, hsv, hrep⟩ := hres
            rw [hφ] at hvv
            cases hvv
            have hrun := run_storeVar_row (P := P) (off := off) (v := uv) hsz (by omega) hh (by omega) (leafAll hleaf hsize hcell)
            refine ⟨_, by simp only [Instr.storeAt, Instr.sureAddr, Sem.run_bind, Sem.run_pure, Result.andThen_ok]; exact hrun, ?_⟩
            refine h.write rfl rfl rfl (by simp [World.setRow]) (fun k hk => setRow_other w g k _ (fun e => hk ((hF _).2 e))) fun hS hSc => ?_
            refine ⟨g, _, hφ, hF, setRow_heap w g vs _ ty _ hh, ?_, fun j x hx => ?_⟩
            · have : (spl vs.toList off uv.cells.toList).length = vs.toList.length := spl_length (by simp; omega)
              simp only [List.size_toArray, this, upd_length hle]
              simpa using hsv
            · rw [upd_get hle] at hx
              have hg : (spl vs.toList off uv.cells.toList).toArray.getD j Go.undef = ((spl vs.toList off uv.cells.toList)[j]?).getD Go.undef := by simp [Array.getD_eq_getD_getElem?]
              rw [hg, spl_get (by simp; omega)]
              by_cases hc : off ≤ j ∧ j < off + us.length
              · rw [if_pos hc] at hx
                rw [if_pos (by simp; omega)]
                have := (hcell _ _ hx).mono hSc hS
                simpa [Array.getD_eq_getD_getElem?] using this
              · rw [if_neg hc] at hx
                rw [if_neg (by simp; omega)]
                have := (hrep _ _ hx).mono hSc hS
                simpa [Array.getD_eq_getD_getElem?] using this
          · cases hq
        · cases hq
      · rename_i m sz' i off
        cases hp with
        | @oep _ _ _ _ g len cap hφ =>
        split at hq
        · rename_i ty sz'' k xs k' es hM hes
          split at hq
          · rename_i hcond
            obtain ⟨rfl, hi, hle⟩ := hcond
            cases hq
            have hres := h.res m
            rw [hM] at hres
            obtain ⟨cells, hown, hbd, hlenx, hrep⟩ := hres
            rw [hφ] at hown
            obtain ⟨hown, hF⟩ := hown.resolve_right (by rintro ⟨rfl, _⟩; simp at hi)
            obtain ⟨hle1, hre, hone⟩ := lowerL_rep (us := fun j => uv.cells.getD j Go.undef) hcell hes
            obtain ⟨hcl, hor⟩ := hown
            obtain ⟨g', cap', cur, hv', hb0, hh, hc1, hc2, hc3, htake⟩ := hor.resolve_left (by rintro ⟨h1, _⟩; cases h1)
            simp only [Value.slice.injEq, Option.some.injEq, Addr.mk.injEq, and_true] at hv'
            obtain ⟨rfl, hlen', rfl⟩ := hv'
            have hmul : (i + 1) * sz' ≤ xs.length * sz' := Nat.mul_le_mul_right _ hi
            have hmul' : xs.length * sz' ≤ cap * sz' := Nat.mul_le_mul_right _ hc1
            rw [Nat.add_mul] at hmul
            have hone' : ∀ u ∈ uv.cells.toList, u.oneCell' = true := by
              intro u hu
              obtain ⟨j, hj⟩ := List.getElem?_of_mem hu
              rw [Array.getElem?_toList] at hj
              have hlt : j < uv.cells.size := (Array.getElem?_eq_some_iff.1 hj).1
              have := hone j (by omega)
              simpa [Array.getD_eq_getD_getElem?, hj] using this
            have hsz0 : uv.cells.toList.length = es.length := by simp; omega
            have hrun := run_storeVar_row (P := P) (off := i * sz' + off) (v := uv) hsz (by omega) hh (by omega) hone'
            refine ⟨_, by simp only [Instr.storeAt, Instr.sureAddr, Sem.run_bind, Sem.run_pure, Result.andThen_ok]; exact hrun, ?_⟩
            refine h.write rfl rfl rfl (by simp [World.setRow]) (fun q hq => setRow_other w g q _ (fun e => hq ((hF _).2 (by rw [e]; rfl)))) fun hS hSc => ?_
            have hspl : i * sz' + off + uv.cells.toList.length ≤ cur.toList.length := by simp; omega
            have hxe : xs[i]? = some (xs.getD i []) := by
              rw [List.getD_eq_getElem?_getD, List.getElem?_eq_getElem hi]; rfl
            have hel : (xs.getD i []).length = sz' := hlenx _ (List.mem_of_getElem? hxe)
            have hupl : (upd (xs.getD i []) off es).length = sz' := by rw [upd_length (by omega), hel]
            refine ⟨(spl cur.toList (i * sz' + off) uv.cells.toList).take (xs.length * sz'), .inl ⟨⟨?_, .inr ⟨g, cap, _, by rw [hφ, hlen']; simp, Nat.zero_le _, setRow_heap w g cur _ ty _ hh, by simpa using hc1, hc2, ?_, by simp⟩⟩, fun q => by rw [hφ]; exact hF q⟩, by simpa using hbd, fun e he => ?_, fun i' j e x he hx => ?_⟩
            · rw [List.length_take, spl_length hspl, List.length_set]
              simp; omega
            · simp [spl_length hspl, hc3]
            · rcases List.mem_or_eq_of_mem_set he with he | he
              · exact hlenx e he
              · rw [he]; exact hupl
            · have hi' : i' < xs.length := by
                have := (List.getElem?_eq_some_iff.1 he).1
                simpa using this
              have hj : j < sz' := by
                have h1 := (List.getElem?_eq_some_iff.1 hx).1
                have h2 : e.length = sz' := by
                  rcases List.mem_or_eq_of_mem_set (List.mem_of_getElem? he) with he' | he'
                  · exact hlenx e he'
                  · rw [he']; exact hupl
                omega
              have hmul2 : (i' + 1) * sz' ≤ xs.length * sz' := Nat.mul_le_mul_right _ hi'
              rw [Nat.add_mul] at hmul2
              have hold : cells.getD (i' * sz' + j) Go.undef = (cur.toList[i' * sz' + j]?).getD Go.undef := by
                rw [← htake, List.getD_eq_getElem?_getD, List.getElem?_take, if_pos (by omega)]
              have hnew : ((spl cur.toList (i * sz' + off) uv.cells.toList).take (xs.length * sz')).getD (i' * sz' + j) Go.undef = ((spl cur.toList (i * sz' + off) uv.cells.toList)[i' * sz' + j]?).getD Go.undef := by
                rw [List.getD_eq_getElem?_getD, List.getElem?_take, if_pos (by omega)]
              rw [hnew, spl_get hspl]
              by_cases hii : i = i'
              · subst hii
                rw [List.getElem?_set_self hi] at he
                cases he
                rw [upd_get (by omega)] at hx
                by_cases hc : off ≤ j ∧ j < off + es.length
                · rw [if_pos hc] at hx
                  rw [if_pos (by omega)]
                  have h0 := ((hre _ _ hx).mono (hSc _) (hS _)).join k
                  rw [Kind.join_comm] at h0
                  have e1 : i * sz' + j - (i * sz' + off) = j - off := by omega
                  rw [e1]
                  simpa [Array.getD_eq_getD_getElem?] using h0
                · rw [if_neg hc] at hx
                  rw [if_neg (by omega)]
                  have h0 := ((hrep i j _ x hxe hx).mono (hSc _) (hS _)).join k'
                  rw [hold] at h0
                  exact h0
              · rw [List.getElem?_set_ne hii] at he
                rw [if_neg (by
                  rintro ⟨h1, h2⟩
                  rcases Nat.lt_or_gt_of_ne hii with hlt | hgt
                  · have : (i + 1) * sz' ≤ i' * sz' := Nat.mul_le_mul_right _ hlt
                    rw [Nat.add_mul] at this
                    omega
                  · have : (i' + 1) * sz' ≤ i * sz' := Nat.mul_le_mul_right _ hgt
                    rw [Nat.add_mul] at this
                    omega)]
                have h0 := ((hrep i' j _ x he hx).mono (hSc _) (hS _)).join k'
                rw [hold] at h0
                exact h0
          · cases hq
        · cases hq
      · cases hq
    · cases hq
  · cases hq

end
end Go.PS
