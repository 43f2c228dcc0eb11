/- PS9: slice literals, make, append; forgetting a name's mentions. -/
import Derived.Test.YtmneioafbkknhaaPS8
set_option linter.unusedVariables false
set_option linter.unusedSimpArgs false
namespace Go.PS
open Go Go.RowKit

theorem flat_get {α : Type} {sz : Nat} : ∀ {l : List (List α)}, (∀ e ∈ l, e.length = sz) → ∀ {i j : Nat}, j < sz → l.flatten[i * sz + j]? = (l[i]?).bind (·[j]?)
  | [], _, i, j, _ => by simp
  | e :: l, h, 0, j, hj => by
    have he := h e (by simp)
    simp only [List.flatten_cons, Nat.zero_mul, Nat.zero_add]
    rw [List.getElem?_append_left (by omega)]
    simp
  | e :: l, h, i + 1, j, hj => by
    have he := h e (by simp)
    simp only [List.flatten_cons]
    rw [List.getElem?_append_right (by rw [he, Nat.add_mul]; omega)]
    have : (i + 1) * sz + j - e.length = i * sz + j := by rw [he, Nat.add_mul]; omega
    rw [this, flat_get (fun e' h' => h e' (List.mem_cons_of_mem _ h')) hj]
    simp

theorem flat_length {α : Type} {sz : Nat} : ∀ {l : List (List α)}, (∀ e ∈ l, e.length = sz) → l.flatten.length = l.length * sz
  | [], _ => by simp
  | e :: l, h => by
    have he := h e (by simp)
    simp only [List.flatten_cons, List.length_append, List.length_cons, he]
    rw [flat_length (fun e' h' => h e' (List.mem_cons_of_mem _ h')), Nat.add_mul]
    omega

theorem fold_concat {α : Type} {sz : Nat} : ∀ (l : List (List α)) (k : Nat) (cs : List α), (∀ e ∈ l, e.length = sz) → (k + l.length) * sz ≤ cs.length →
    (l.zipIdx k).foldl (fun cs p => spl cs (p.2 * sz) p.1) cs = spl cs (k * sz) l.flatten
  | [], k, cs, _, _ => by simp [spl]
  | e :: l, k, cs, h, hle => by
    have he := h e (by simp)
    have hl := fun e' h' => h e' (List.mem_cons_of_mem _ h')
    have hfl := flat_length hl
    simp only [List.length_cons] at hle
    have h2 : (k + (l.length + 1)) * sz = k * sz + sz + l.length * sz := by rw [Nat.add_mul, Nat.add_mul]; omega
    simp only [List.zipIdx_cons, List.foldl_cons, List.flatten_cons]
    rw [fold_concat l (k + 1) _ hl (by
      rw [spl_length (by omega)]
      have : (k + 1 + l.length) * sz = (k + (l.length + 1)) * sz := by congr 1; omega
      omega)]
    have e1 : (k + 1) * sz = k * sz + e.length := by rw [Nat.add_mul, he]; omega
    rw [e1, spl_spl (by omega)]

/-- A slice literal's elements, one by one. -/
def rowPV (s : StL) (sz : Nat) : Nat → List (Nat × Operand) → Option (Kind × List (List TL))
  | _, [] => some (.fz, [])
  | j, (i, x) :: rest => if i = j then
      match cellsPV (ev s x), rowPV s sz (j + 1) rest with
      | some us, some (k', es) => match lowerL us with
        | some (k, e) => if e.length = sz then some (k.join k', e :: es) else none
        | none => none
      | _, _ => none
    else none

def elT (P : Program) (t : Nat) : Option Nat :=
  match P.underlying t with
  | some (.slice e) => some e
  | _ => none

def byT (P : Program) (t : Nat) : Option Nat := (P.info? t).map (·.bytes)

section
variable {P : Program} {w0 : Base} {F0 : Nat → Prop} {n : Nat} {s : StL} {a : Act} {w : World} {φ : Nat → Value} {fp : Nat → Nat → Prop}

theorem rowPV_rep (h : SimX w0 F0 n s a w φ fp) {sz : Nat} : ∀ (parts : List (Nat × Operand)) (j : Nat) (k : Kind) (xs : List (List TL)), rowPV s sz j parts = some (k, xs) →
    xs.length = parts.length ∧ (∀ e ∈ xs, e.length = sz) ∧ (∀ (i : Nat) (p : Nat × Operand), parts[i]? = some p → p.1 = j + i ∧ (a.eval p.2).cells.size = sz ∧ ∀ u ∈ (a.eval p.2).cells.toList, u.oneCell' = true) ∧
    ∀ (i q : Nat) (p : Nat × Operand) (e : List TL) (x : TL), parts[i]? = some p → xs[i]? = some e → e[q]? = some x → TRep w (Stb w0 w fp k) x ((a.eval p.2).cells.getD q Go.undef)
  | [], j, k, xs, hr => by
    simp only [rowPV, Option.some.injEq, Prod.mk.injEq] at hr
    obtain ⟨rfl, rfl⟩ := hr
    refine ⟨rfl, fun e he => ?_, fun i p hp => ?_, fun i q p e x hp => ?_⟩
    · simp at he
    · simp at hp
    · simp at hp
  | (i, x) :: rest, j, k, xs, hr => by
    simp only [rowPV] at hr
    split at hr
    · rename_i hij
      split at hr
      · rename_i us k' es hus hrest
        split at hr
        · rename_i k1 e1 hl1
          split at hr
          · rename_i hel
            simp only [Option.some.injEq, Prod.mk.injEq] at hr
            obtain ⟨rfl, rfl⟩ := hr
            obtain ⟨hs, hc⟩ := cellsPV_rep (h.ev x) hus
            obtain ⟨hle, hre, hone⟩ := lowerL_rep (us := fun j => (a.eval x).cells.getD j Go.undef) hc hl1
            obtain ⟨h1, h2, h3, h4⟩ := rowPV_rep h rest (j + 1) k' es hrest
            refine ⟨by simp [h1], ?_, ?_, ?_⟩
            · intro e he
              rcases List.mem_cons.1 he with rfl | he
              · exact hel
              · exact h2 e he
            · intro i' p hp
              cases i' with
              | zero =>
                simp at hp
                subst hp
                refine ⟨by simp [hij], by show (a.eval x).cells.size = sz; omega, fun u hu => ?_⟩
                obtain ⟨q, hq⟩ := List.getElem?_of_mem hu
                rw [Array.getElem?_toList] at hq
                have hlt : q < (a.eval x).cells.size := (Array.getElem?_eq_some_iff.1 hq).1
                have := hone q (by omega)
                simpa [Array.getD_eq_getD_getElem?, hq] using this
              | succ i' =>
                obtain ⟨h5, h6⟩ := h3 i' p (by simpa using hp)
                exact ⟨by omega, h6⟩
            · intro i' q p e x' hp he hx
              cases i' with
              | zero =>
                simp at hp he
                subst hp he
                exact (hre q x' hx).join k'
              | succ i' =>
                rw [Kind.join_comm]
                exact (h4 i' q p e x' (by simpa using hp) (by simpa using he) hx).join k1
          · cases hr
        · cases hr
      · cases hr
    · cases hr

/-- A row made in a new block. -/
theorem SimX.newRow (h : SimX w0 F0 n s a w φ fp) {d : Nat} (hd : s.free d = true) (hdn : d < n) (ty sz : Nat) (k : Kind) {cells : Array Value} {xs : List (List TL)} (cap : Nat) (hc0 : xs.length ≤ cap) (hc1 : cap ≤ maxLen)
    (hcs : cells.size = cap * sz) (hbd : xs.length ≤ 140737488355328) (hl : ∀ e ∈ xs, e.length = sz)
    (hr : ∀ (i j : Nat) (e : List TL) (x : TL), xs[i]? = some e → e[j]? = some x → TRep w (Stb w0 w fp k) x (cells.getD (i * sz + j) Go.undef)) :
    Sim w0 F0 n ⟨(d, .osl d) :: s.T, (d, .row ty sz k xs) :: s.M⟩ (a.put (some d) (.slice (some ⟨w.heap.size, 0, none⟩) xs.length cap)) (w.alloc (.cells cells ty)) := by
  have hlen : (cells.toList.take (xs.length * sz)).length = xs.length * sz := by
    have : xs.length * sz ≤ cap * sz := Nat.mul_le_mul_right _ hc0
    rw [List.length_take]; simp; omega
  obtain ⟨φ', fp', h', hne, hv⟩ := h.new hd (o := .cells cells ty) (r := .row ty sz k xs) (v := .slice (some ⟨w.heap.size, 0, none⟩) xs.length cap) (by
    intro φ' fp' hne hv hS hSc
    refine ⟨cells.toList.take (xs.length * sz), .inl ⟨⟨hlen, .inr ⟨w.heap.size, cap, cells, rfl, Nat.zero_le _, heap_alloc_new w _, hc0, hc1, hcs, rfl⟩⟩, fun g => by simp [Value.ownBlock, eq_comm]⟩, hbd, hl, fun i j e x he hx => ?_⟩
    have hi := (List.getElem?_eq_some_iff.1 he).1
    have hj := (List.getElem?_eq_some_iff.1 hx).1
    rw [hl e (List.mem_of_getElem? he)] at hj
    have hmul : (i + 1) * sz ≤ xs.length * sz := Nat.mul_le_mul_right _ hi
    rw [Nat.add_mul] at hmul
    rw [List.getD_eq_getElem?_getD, List.getElem?_take, if_pos (by omega)]
    have := (hr i j e x he hx).mono (hSc _) (hS _)
    simpa [Array.getD_eq_getD_getElem?] using this)
  exact ⟨φ', fp', h'.put hdn (.osl hv)⟩

theorem elT_und {t e : Nat} (h : elT P t = some e) : P.underlying t = some (.slice e) := by
  unfold elT at h
  split at h
  · cases h; assumption
  · cases h

theorem buildSlice_run (h : SimX w0 F0 n s a w φ fp) {d t e len sz : Nat} {parts : Array (Nat × Operand)} {k : Kind} {xs : List (List TL)} {z : List Value} (hd : s.free d = true) (hdn : d < n)
    (he : elT P t = some e) (hsz : szT P e = some sz) (hz : zT P e = some z) (hzl : z.length = sz) (hlen : len = parts.size) (hbig : len * sz ≤ 16777216) (hpos : 0 < sz) (hq : rowPV s sz 0 parts.toList = some (k, xs)) :
    ∃ v w', (Instr.buildSlice t len (parts.map fun (i, x) => (i, a.eval x))).run P w = .ok v w' ∧ Sim w0 F0 n ⟨(d, .osl d) :: s.T, (d, .row e sz k xs) :: s.M⟩ (a.put (some d) v) w' := by
  obtain ⟨h1, h2, h3, h4⟩ := rowPV_rep h parts.toList 0 k xs hq
  obtain ⟨zv, hzr, hzc⟩ := zT_run hz w
  have hzs : zv.cells.size = sz := by have := congrArg List.length hzc; simpa [hzl] using this
  let vals : List (Nat × Value) := parts.toList.map fun p => (p.1, a.eval p.2)
  have hpm : (parts.map fun (i, x) => (i, a.eval x)).toList = vals := by simp [vals]
  have hxl : xs.length = len := by rw [h1, hlen]; simp
  let base : Array Value := (Array.range (len * sz)).map fun i => ((if len * sz = 0 then #[] else zv.cells))[i % (if len * sz = 0 then #[] else zv.cells).size]!
  have hbs : base.size = len * sz := by simp [base]
  have hv3 : ∀ (i : Nat) (p : Nat × Value), vals[i]? = some p → p.1 = i ∧ p.2.cells.size = sz := by
    intro i p hp
    simp only [vals, List.getElem?_map] at hp
    obtain ⟨q, hq', rfl⟩ := Option.map_eq_some_iff.1 hp
    obtain ⟨h5, h6, _⟩ := h3 i q hq'
    exact ⟨by simpa using h5, h6⟩
  obtain ⟨res, hres, hresl⟩ := fill_parts (fun i => some (i * sz, sz)) vals base ((List.range vals.length).map (· * sz)) (by simp) (fun j p o hp ho => by
    obtain ⟨h5, h6⟩ := hv3 j p hp
    have hj : j < vals.length := (List.getElem?_eq_some_iff.1 hp).1
    have ho' : o = j * sz := by
      rw [List.getElem?_map, List.getElem?_range hj] at ho
      simpa using ho.symm
    refine ⟨by simp [h5, h6, ho'], ?_⟩
    have hvl : vals.length = len := by simp [vals, hlen]
    have hmul : (j + 1) * sz ≤ len * sz := Nat.mul_le_mul_right _ (by omega)
    rw [Nat.add_mul] at hmul
    rw [h6, hbs, ho']
    omega)
  have hflat : res.toList = (vals.map fun p => p.2.cells.toList).flatten := by
    rw [hresl]
    have e1 : ((vals.zip ((List.range vals.length).map (· * sz))).foldl (fun cs (p : (Nat × Value) × Nat) => spl cs p.2 p.1.2.cells.toList) base.toList) =
        ((vals.map fun p => p.2.cells.toList).zipIdx 0).foldl (fun cs p => spl cs (p.2 * sz) p.1) base.toList := by
      generalize base.toList = acc
      have key : ∀ (l : List (Nat × Value)) (k : Nat) (acc : List Value), (l.zip ((List.range' k l.length).map (· * sz))).foldl (fun cs (p : (Nat × Value) × Nat) => spl cs p.2 p.1.2.cells.toList) acc =
          ((l.map fun p => p.2.cells.toList).zipIdx k).foldl (fun cs p => spl cs (p.2 * sz) p.1) acc := by
        intro l
        induction l with
        | nil => intro k acc; rfl
        | cons p l ih =>
          intro k acc
          simp only [List.length_cons, List.range'_succ, List.map_cons, List.zip_cons_cons, List.foldl_cons, List.zipIdx_cons]
          exact ih (k + 1) _
      have := key vals 0 acc
      rwa [← List.range_eq_range'] at this
    have hall : ∀ e ∈ (vals.map fun p => p.2.cells.toList), e.length = sz := by
      intro e he'
      obtain ⟨p, hp, rfl⟩ := List.mem_map.1 he'
      obtain ⟨i, hi⟩ := List.getElem?_of_mem hp
      simpa using (hv3 i p hi).2
    have hvl : vals.length = len := by simp [vals, hlen]
    rw [e1, fold_concat _ 0 _ hall (by simp [hbs, hvl])]
    have hfl := flat_length hall
    simp only [List.length_map, hvl] at hfl
    unfold spl
    rw [List.drop_of_length_le (by rw [hfl, Array.length_toList, hbs]; omega)]
    simp
  have hrl : res.size = len * sz := by
    have := congrArg List.length hflat
    rw [flat_length (sz := sz) (by
      intro e he'
      obtain ⟨p, hp, rfl⟩ := List.mem_map.1 he'
      obtain ⟨i, hi⟩ := List.getElem?_of_mem hp
      simpa using (hv3 i p hi).2)] at this
    simpa [vals, hlen] using this
  refine ⟨.slice (some ⟨w.heap.size, 0, none⟩) len len, w.alloc (.cells res e), ?_, ?_⟩
  · have hbig' : ¬ (len * sz > 2 ^ 24) := by omega
    by_cases hz0 : len * sz = 0
    · simp only [base, hz0, if_true] at hres
      simp only [Instr.buildSlice, Sem.run_bind, run_underlying (elT_und he), Result.andThen_ok, szT_run hsz, Sem.run_ite, if_neg hbig', hz0, if_true, Sem.run_pure, hpm, hres]
      simp [newRow]
    · simp only [base, if_neg hz0] at hres
      simp only [Instr.buildSlice, Sem.run_bind, run_underlying (elT_und he), Result.andThen_ok, szT_run hsz, Sem.run_ite, if_neg hbig', if_neg hz0, hzr, Sem.run_pure, hpm, hres]
      simp [newRow]
  · have hll : len ≤ len * sz := Nat.le_mul_of_pos_right _ hpos
    have hm : len ≤ maxLen := by simp only [maxLen]; omega
    have := h.newRow hd hdn e sz k (cells := res) (xs := xs) len (by omega) hm hrl (by omega) h2 (fun i j e' x he' hx => by
      have hi := (List.getElem?_eq_some_iff.1 he').1
      have hj := (List.getElem?_eq_some_iff.1 hx).1
      rw [h2 e' (List.mem_of_getElem? he')] at hj
      have hp : parts.toList[i]? = some (parts.toList[i]'(by omega)) := List.getElem?_eq_getElem (by omega)
      have hrep := h4 i j _ e' x hp he' hx
      have hg : res.getD (i * sz + j) Go.undef = (res.toList[i * sz + j]?).getD Go.undef := by simp [Array.getD_eq_getD_getElem?]
      rw [hg, hflat, flat_get (sz := sz) (by
        intro e he'
        obtain ⟨p, hp, rfl⟩ := List.mem_map.1 he'
        obtain ⟨i, hi⟩ := List.getElem?_of_mem hp
        simpa using (hv3 i p hi).2) hj]
      simp only [vals, List.map_map, List.getElem?_map, hp, Option.map_some, Option.bind_some, Function.comp]
      simpa [Array.getD_eq_getD_getElem?] using hrep)
    rw [hxl] at this
    exact this

end
end Go.PS
