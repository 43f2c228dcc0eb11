/- PS8: literals (build, buildSlice), make, append. -/
import Derived.Test.YtmneioafbkknhaaPS7
set_option linter.unusedVariables false
set_option linter.unusedSimpArgs false
namespace Go.PS
open Go Go.RowKit

theorem spl_spl {α : Type} {cs ps qs : List α} {o : Nat} (h : o + ps.length + qs.length ≤ cs.length) : spl (spl cs o ps) (o + ps.length) qs = spl cs o (ps ++ qs) := by
  have h1 : o + ps.length ≤ cs.length := by omega
  apply List.ext_getElem?
  intro i
  rw [spl_get (by rw [spl_length h1]; omega), spl_get h1, spl_get (by simp; omega)]
  simp only [List.length_append]
  by_cases ha : o + ps.length ≤ i ∧ i < o + ps.length + qs.length
  · rw [if_pos ha, if_pos (by omega), List.getElem?_append_right (by omega)]
    congr 1; omega
  · rw [if_neg ha]
    by_cases hb : o ≤ i ∧ i < o + ps.length
    · rw [if_pos hb, if_pos (by omega), List.getElem?_append_left (by omega)]
    · rw [if_neg hb, if_neg (by omega)]

theorem spl_one {α : Type} {cs : List α} {o : Nat} {x : α} (h : o < cs.length) : spl cs o [x] = cs.set o x := by
  apply List.ext_getElem?
  intro i
  rw [spl_get (by simp; omega)]
  by_cases e : o = i
  · subst e
    rw [if_pos (by simp), List.getElem?_set_self h]; simp
  · rw [if_neg (by simp; omega), List.getElem?_set_ne e]

theorem fold_spl (off : Nat) : ∀ (l : List Value) (k : Nat) (acc : Array Value), off + k + l.length ≤ acc.size →
    ((l.zipIdx k).foldl (fun cs p => cs.setIfInBounds (off + p.2) p.1) acc).toList = spl acc.toList (off + k) l
  | [], k, acc, h => by simp [spl]
  | x :: l, k, acc, h => by
    simp only [List.length_cons] at h
    simp only [List.zipIdx_cons, List.foldl_cons]
    rw [fold_spl off l (k + 1) _ (by simp; omega)]
    have e1 : (acc.setIfInBounds (off + k) x).toList = spl acc.toList (off + k) [x] := by
      rw [spl_one (by simp; omega)]; simp
    rw [e1]
    have := spl_spl (cs := acc.toList) (ps := [x]) (qs := l) (o := off + k) (by simp; omega)
    simp only [List.length_cons, List.length_nil, Nat.zero_add, List.singleton_append] at this
    exact this

theorem fill_one (cells : Array Value) (off : Nat) (v : Value) (h : off + v.cells.size ≤ cells.size) :
    (v.cells.zipIdx.foldl (fun cs (p : Value × Nat) => cs.setIfInBounds (off + p.2) p.1) cells).toList = spl cells.toList off v.cells.toList := by
  rw [← Array.foldl_toList, Array.toList_zipIdx]
  have := fold_spl off v.cells.toList 0 cells (by simp; omega)
  simpa using this

/-- A literal's parts in their places. -/
theorem fill_parts (place : Nat → Option (Nat × Nat)) : ∀ (parts : List (Nat × Value)) (cells : Array Value) (offs : List Nat),
    offs.length = parts.length → (∀ (j : Nat) (p : Nat × Value) (o : Nat), parts[j]? = some p → offs[j]? = some o → place p.1 = some (o, p.2.cells.size) ∧ o + p.2.cells.size ≤ cells.size) →
    ∃ out, Instr.fill place cells parts = some out ∧ out.toList = (parts.zip offs).foldl (fun cs (p : (Nat × Value) × Nat) => spl cs p.2 p.1.2.cells.toList) cells.toList
  | [], cells, offs, hl, hp => ⟨cells, rfl, by simp⟩
  | (i, v) :: parts, cells, [], hl, hp => by simp at hl
  | (i, v) :: parts, cells, o :: offs, hl, hp => by
    obtain ⟨h1, h2⟩ := hp 0 (i, v) o (by simp) (by simp)
    simp only at h1 h2
    have hf := fill_one cells o v h2
    have hsz : (v.cells.zipIdx.foldl (fun cs (p : Value × Nat) => cs.setIfInBounds (o + p.2) p.1) cells).size = cells.size := by
      have := congrArg List.length hf
      rw [spl_length (by simp; omega)] at this
      simpa using this
    obtain ⟨out, ho, hl'⟩ := fill_parts place parts (v.cells.zipIdx.foldl (fun cs (p : Value × Nat) => cs.setIfInBounds (o + p.2) p.1) cells) offs (by simpa using hl) (fun j p o' hj ho' => by
      have := hp (j + 1) p o' (by simpa using hj) (by simpa using ho')
      rw [hsz]
      exact this)
    refine ⟨out, ?_, ?_⟩
    · rw [← ho]
      simp only [Instr.fill, h1]
      rw [if_neg (by simp; omega)]
    · rw [hl', hf]
      simp

/-- Parts as cells of a state. -/
def fillPV (cs : List PV) : List (Nat × List PV) → Option (List PV)
  | [] => some cs
  | (o, us) :: rest => if o + us.length ≤ cs.length then fillPV (upd cs o us) rest else none

/-- The places of a struct's or an array's parts. -/
def placeT (P : Program) (t i : Nat) : Option (Nat × Nat) :=
  match P.underlying t with
  | some (.struct fs) => fldT P t i
  | some (.array _ e) => (szT P e).map fun m => (i * m, m)
  | _ => none

def partsPV (P : Program) (s : StL) (t : Nat) : List (Nat × Operand) → Option (List (Nat × List PV))
  | [] => some []
  | (i, x) :: rest => match placeT P t i, cellsPV (ev s x), partsPV P s t rest with
    | some (o, m), some us, some r => if us.length = m then some ((o, us) :: r) else none
    | _, _, _ => none

def buildPV (P : Program) (s : StL) (t : Nat) (parts : List (Nat × Operand)) : Option PV :=
  match zT P t, partsPV P s t parts with
  | some z, some ps => (fillPV (z.map fun c => PV.t .fz (.v c)) ps).map PV.agg
  | _, _ => none

section
variable {P : Program} {w0 : Base} {F0 : Nat → Prop} {n : Nat} {s : StL} {a : Act} {w : World} {φ : Nat → Value} {fp : Nat → Nat → Prop}

theorem fillPV_rep {St : Kind → Nat → Prop} : ∀ (ps : List (Nat × List PV)) (qs : List ((Nat × Value) × Nat)) (cs out : List PV) (vs : List Value), cs.length = vs.length →
    (∀ (j : Nat) (x : PV), cs[j]? = some x → PVRep w φ St x (vs.getD j Go.undef)) → ps.length = qs.length →
    (∀ (i : Nat) (p : Nat × List PV) (q : (Nat × Value) × Nat), ps[i]? = some p → qs[i]? = some q → p.1 = q.2 ∧ q.1.2.cells.size = p.2.length ∧ ∀ (j : Nat) (x : PV), p.2[j]? = some x → PVRep w φ St x (q.1.2.cells.getD j Go.undef)) →
    fillPV cs ps = some out →
    out.length = vs.length ∧ ((qs.foldl (fun cs (p : (Nat × Value) × Nat) => spl cs p.2 p.1.2.cells.toList) vs).length = vs.length) ∧
      ∀ (j : Nat) (x : PV), out[j]? = some x → PVRep w φ St x ((qs.foldl (fun cs (p : (Nat × Value) × Nat) => spl cs p.2 p.1.2.cells.toList) vs).getD j Go.undef)
  | [], [], cs, out, vs, hl, hr, _, _, hf => by
    simp only [fillPV, Option.some.injEq] at hf
    subst hf
    exact ⟨hl, rfl, hr⟩
  | [], _ :: _, cs, out, vs, hl, hr, h, _, hf => by simp at h
  | _ :: _, [], cs, out, vs, hl, hr, h, _, hf => by simp at h
  | (o, us) :: ps, ((i, v), o') :: qs, cs, out, vs, hl, hr, hlen, hp, hf => by
    obtain ⟨h1, h2, h3⟩ := hp 0 (o, us) ((i, v), o') (by simp) (by simp)
    simp only at h1 h2 h3
    subst h1
    simp only [fillPV] at hf
    split at hf
    · rename_i hle
      have hle' : o + v.cells.toList.length ≤ vs.length := by simp; omega
      have := fillPV_rep ps qs (upd cs o us) out (spl vs o v.cells.toList) (by rw [upd_length hle, spl_length hle', hl]) (fun j x hx => by
        rw [upd_get hle] at hx
        rw [List.getD_eq_getElem?_getD, spl_get hle']
        by_cases hc : o ≤ j ∧ j < o + us.length
        · rw [if_pos hc] at hx
          rw [if_pos (by simp; omega)]
          have := h3 _ _ hx
          simpa [Array.getD_eq_getD_getElem?] using this
        · rw [if_neg hc] at hx
          rw [if_neg (by simp; omega)]
          have := hr _ _ hx
          rwa [List.getD_eq_getElem?_getD] at this) (by simpa using hlen) (fun i' p q hp' hq' => hp (i' + 1) p q (by simpa using hp') (by simpa using hq')) hf
      rw [spl_length hle'] at this
      exact this
    · cases hf

theorem partsPV_rep (h : SimX w0 F0 n s a w φ fp) {t : Nat} : ∀ (parts : List (Nat × Operand)) (ps : List (Nat × List PV)), partsPV P s t parts = some ps →
    ps.length = parts.length ∧ ∀ (i : Nat) (p : Nat × List PV) (q : Nat × Operand), ps[i]? = some p → parts[i]? = some q →
      placeT P t q.1 = some (p.1, p.2.length) ∧ (a.eval q.2).cells.size = p.2.length ∧ ∀ (j : Nat) (x : PV), p.2[j]? = some x → PVRep w φ (Stb w0 w fp) x ((a.eval q.2).cells.getD j Go.undef)
  | [], ps, hp => by
    simp only [partsPV, Option.some.injEq] at hp
    subst hp
    exact ⟨rfl, fun i p q h1 _ => by simp at h1⟩
  | (i, x) :: rest, ps, hp => by
    simp only [partsPV] at hp
    split at hp
    · rename_i o m us r h1 h2 h3
      split at hp
      · rename_i hm
        cases hp
        obtain ⟨hl, hr⟩ := partsPV_rep h rest r h3
        refine ⟨by simp [hl], fun j p q hj hq => ?_⟩
        cases j with
        | zero =>
          simp at hj hq
          subst hj hq
          obtain ⟨hs, hc⟩ := cellsPV_rep (h.ev x) h2
          exact ⟨by rw [h1, hm], hs, hc⟩
        | succ j => exact hr j p q (by simpa using hj) (by simpa using hq)
      · cases hp
    · cases hp

/-- How the machine finds the places. -/
theorem fields_mapM {fs : Array Field} (w : World) (h : ∀ f ∈ fs, (szT P f.type).isSome = true) :
    (fs.mapM fun f => do pure (f.offset, ← sizeOf f.type) : Sem (Array (Nat × Nat))).run P w = .ok (fs.map fun f => (f.offset, (szT P f.type).getD 0)) w := by
  rw [Array.mapM_eq_mapM_toList]
  have key : ∀ l : List Field, (∀ f ∈ l, (szT P f.type).isSome = true) → (l.mapM fun f => do pure (f.offset, ← sizeOf f.type) : Sem (List (Nat × Nat))).run P w = .ok (l.map fun f => (f.offset, (szT P f.type).getD 0)) w := by
    intro l
    induction l with
    | nil => intro _; rfl
    | cons f l ih =>
      intro hf
      obtain ⟨m, hm⟩ := Option.isSome_iff_exists.1 (hf f (by simp))
      have ih' := ih fun g hg => hf g (List.mem_cons_of_mem _ hg)
      rw [List.mapM_cons]
      simp only [Sem.run_bind, szT_run hm, Result.andThen_ok, Sem.run_pure, ih', List.map_cons, hm, Option.getD_some]
  have := key fs.toList (fun f hf => h f (by simpa using hf))
  simp only [Sem.run_map]
  rw [this]
  simp only [Result.andThen_ok, Result.ok.injEq, and_true]
  apply Array.ext'
  simp

/-- All the fields' types are known. -/
def fldsOk (P : Program) (t : Nat) : Bool :=
  match P.underlying t with
  | some (.struct fs) => fs.all fun f => (szT P f.type).isSome
  | some (.array _ e) => (szT P e).isSome
  | _ => false

theorem buildPV_run (h : SimX w0 F0 n s a w φ fp) {t : Nat} {parts : Array (Nat × Operand)} {q : PV} (hok : fldsOk P t = true) (hq : buildPV P s t parts.toList = some q) :
    ∃ v, (Instr.build t (parts.map fun (i, x) => (i, a.eval x))).run P w = .ok v w ∧ PVRep w φ (Stb w0 w fp) q v := by
  unfold buildPV at hq
  split at hq
  · rename_i z ps hz hps
    obtain ⟨out, hout, rfl⟩ := Option.map_eq_some_iff.1 hq
    obtain ⟨zv, hzr, hzc⟩ := zT_run hz w
    obtain ⟨hpl, hpr⟩ := partsPV_rep h parts.toList ps hps
    have hzero : ∀ (j : Nat) (x : PV), (z.map fun c => PV.t .fz (.v c))[j]? = some x → PVRep w φ (Stb w0 w fp) x (zv.cells.toList.getD j Go.undef) := by
      intro j x hx
      rw [List.getElem?_map] at hx
      obtain ⟨c, hc, rfl⟩ := Option.map_eq_some_iff.1 hx
      rw [hzc, List.getD_eq_getElem?_getD, hc]
      exact .t (.v _)
    let vals : List (Nat × Value) := parts.toList.map fun p => (p.1, a.eval p.2)
    let offs : List Nat := ps.map (·.1)
    have hfin : ∀ place : Nat → Option (Nat × Nat), (∀ p ∈ parts.toList, ∀ o, placeT P t p.1 = some o → place p.1 = some o) → ∃ cells, Instr.fill place zv.cells vals = some cells ∧ PVRep w φ (Stb w0 w fp) (.agg out) (.agg cells) := by
      intro place hplace
      have hbnd : ∀ (ps : List (Nat × List PV)) (cs out : List PV), fillPV cs ps = some out → ∀ p ∈ ps, p.1 + p.2.length ≤ cs.length := by
        intro ps
        induction ps with
        | nil => intro cs out _ p hp; simp at hp
        | cons q ps ih =>
          intro cs out hf p hp
          obtain ⟨o, us⟩ := q
          simp only [fillPV] at hf
          split at hf
          · rename_i hle
            rcases List.mem_cons.1 hp with rfl | hp
            · exact hle
            · have := ih _ _ hf p hp
              rwa [upd_length hle] at this
          · cases hf
      have hb := hbnd ps _ out hout
      obtain ⟨res, hres, hresl⟩ := fill_parts place vals zv.cells offs (by simp [offs, vals, hpl]) (fun j p o hp ho => by
        simp only [vals, List.getElem?_map] at hp
        obtain ⟨q, hq, rfl⟩ := Option.map_eq_some_iff.1 hp
        simp only [offs, List.getElem?_map] at ho
        obtain ⟨r, hr, rfl⟩ := Option.map_eq_some_iff.1 ho
        obtain ⟨h1, h2, h3⟩ := hpr j r q hr hq
        refine ⟨by rw [hplace q (List.mem_of_getElem? hq) _ h1, h2], ?_⟩
        have := hb r (List.mem_of_getElem? hr)
        have hzl : z.length = zv.cells.size := by rw [← hzc]; simp
        simp only [List.length_map] at this
        simp only
        omega)
      obtain ⟨hl1, hl2, hl3⟩ := fillPV_rep ps (vals.zip offs) (z.map fun c => PV.t .fz (.v c)) out zv.cells.toList (by rw [hzc]; simp) hzero (by simp [vals, offs, hpl]) (fun i p q hp hq => by
        rw [List.getElem?_zip_eq_some] at hq
        obtain ⟨hq1, hq2⟩ := hq
        simp only [vals, List.getElem?_map] at hq1
        obtain ⟨q', hq', e1⟩ := Option.map_eq_some_iff.1 hq1
        simp only [offs, List.getElem?_map, hp, Option.map_some, Option.some.injEq] at hq2
        obtain ⟨h1, h2, h3⟩ := hpr i p q' hp hq'
        rw [← e1]
        exact ⟨hq2, h2, h3⟩) hout
      rw [← hresl] at hl2 hl3
      simp only [Array.length_toList] at hl1 hl2
      refine ⟨res, hres, .agg res (by omega) fun j x hx => ?_⟩
      have := hl3 j x hx
      simpa [Array.getD_eq_getD_getElem?] using this
    have hpm : (parts.map fun (i, x) => (i, a.eval x)).toList = vals := by simp [vals]
    unfold fldsOk at hok
    split at hok
    · rename_i fs hfs
      have hall : ∀ f ∈ fs, (szT P f.type).isSome = true := fun f hf => by
        have := Array.all_eq_true'.1 hok f hf
        exact this
      obtain ⟨cells, hc, hr⟩ := hfin (fun i => (fs.map fun f => (f.offset, (szT P f.type).getD 0))[i]?) (fun p hp o ho => by
        simp only [placeT, hfs, fldT] at ho
        split at ho
        · rename_i fl hfl
          obtain ⟨m, hm, rfl⟩ := Option.map_eq_some_iff.1 ho
          simp [hfl, hm]
        · cases ho)
      refine ⟨.agg cells, ?_, hr⟩
      simp only [Instr.build, Sem.run_bind, hzr, Result.andThen_ok, run_underlying hfs]
      rw [fields_mapM (P := P) w hall]
      simp only [Result.andThen_ok, hpm]
      rw [hc]
      rfl
    · rename_i m e he
      cases hsz : szT P e with
      | none => simp [hsz] at hok
      | some sz =>
        obtain ⟨cells, hc, hr⟩ := hfin (fun i => some (i * sz, sz)) (fun p hp o ho => by
          simp only [placeT, he, hsz, Option.map_some] at ho
          exact ho)
        refine ⟨.agg cells, ?_, hr⟩
        simp only [Instr.build, Sem.run_bind, hzr, Result.andThen_ok, run_underlying he, szT_run hsz, hpm]
        rw [hc]
        rfl
    · cases hok
  · cases hq

end
end Go.PS
