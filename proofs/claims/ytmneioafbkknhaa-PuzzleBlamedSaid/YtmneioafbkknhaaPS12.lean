/- PS12: contracts, and what a call leaves of a state. -/
import Derived.Test.YtmneioafbkknhaaPS11
set_option linter.unusedVariables false
set_option linter.unusedSimpArgs false
namespace Go.PS
open Go Go.RowKit

def Callable (P : Program) (f : FuncId) : Prop := ∃ fn c, P.funcs[f]? = some fn ∧ fn.body = some c ∧ (fn.name == "runtime.NumGoroutine") = false

/-- Called with these trees the function returns r; Mr: the memory that r owns. -/
def PCall (P : Program) (f : FuncId) (args : List TL) (r : PV) (Mr : List (Nat × Res)) : Prop :=
  Callable P f ∧ ∀ (w : World) (S : Nat → Prop) (vals : Array Value), (∀ g, S g → g < w.heap.size) → vals.size = args.length → (∀ (i : Nat) (x : TL), args[i]? = some x → TRep w S x (vals.getD i Go.undef)) →
    Calls P f vals w fun e w' => ∃ v φ fp, e = .returned v ∧ Evo (fun _ => False) w w' ∧ (∀ m, ResRep w' φ (Stb (Base.of w S) w' fp) (getM Mr m) (φ m) (fp m)) ∧ (∀ m m' g, fp m g → fp m' g → m = m') ∧
      (∀ m g, fp m g → w.heap.size ≤ g ∧ g < w'.heap.size) ∧ PVRep w' φ (Stb (Base.of w S) w' fp) r v

/-- Lent to a callee: memory of our own as a tree. -/
def optL (f : PV → Option (Bool × TL)) : List PV → Option (Bool × List TL)
  | [] => some (false, [])
  | p :: l => match f p, optL f l with
    | some (b, x), some (b', xs) => some (b || b', x :: xs)
    | _, _ => none

def lendPV : Nat → StL → PV → Option (Bool × TL)
  | 0, _, _ => none
  | d + 1, s, p => match p with
    | .t _ x => some (false, x)
    | .osl m => match getM s.M m with
      | .row _ sz _ xs => some (true, .sl .any sz xs)
      | _ => none
    | .ptr m off => match getM s.M m with
      | .blk _ cs => match optL (lendPV d s) cs with
        | some (_, xs) => some (true, .rp xs off)
        | none => none
      | _ => none
    | .clo f caps => match optL (lendPV d s) caps with
      | some (b, xs) => some (b, .clo f xs)
      | none => none
    | .agg cs => match optL (lendPV d s) cs with
      | some (b, xs) => some (b, .agg xs)
      | none => none
    | _ => none

mutual
def PV.noRo : PV → Bool
  | .t .fz _ => true
  | .t .ro (.v _) => true
  | .t .ro _ => false
  | .clo _ caps => PV.noRoL caps
  | .agg cs => PV.noRoL cs
  | .tup cs => PV.noRoL cs
  | _ => true
def PV.noRoL : List PV → Bool
  | [] => true
  | x :: l => PV.noRo x && PV.noRoL l
end

def Res.noRo : Res → Bool
  | .dead => true
  | .blk _ cs => PV.noRoL cs
  | .row _ _ k _ => k == .fz

mutual
def PV.ren (d : Nat) : PV → PV
  | .t k x => .t k x
  | .ptr _ off => .ptr d off
  | .osl _ => .osl d
  | .oep _ sz i off => .oep d sz i off
  | .omp _ => .omp d
  | .clo f caps => .clo f (PV.renL d caps)
  | .agg cs => .agg (PV.renL d cs)
  | .tup cs => .tup (PV.renL d cs)
  | .undef => .undef
def PV.renL (d : Nat) : List PV → List PV
  | [] => []
  | x :: l => PV.ren d x :: PV.renL d l
end

def Res.ren (d : Nat) : Res → Res
  | .dead => .dead
  | .blk ty cs => .blk ty (PV.renL d cs)
  | .row ty sz k xs => .row ty sz k xs

mutual
/-- Does it name nothing but z? (b = false: nothing at all?) -/
def PV.nm (b : Bool) (z : Nat) : PV → Bool
  | .t _ _ => true
  | .ptr n _ => b && n == z
  | .osl n => b && n == z
  | .oep n _ _ _ => b && n == z
  | .omp n => b && n == z
  | .clo _ caps => PV.nmL b z caps
  | .agg cs => PV.nmL b z cs
  | .tup cs => PV.nmL b z cs
  | .undef => true
def PV.nmL (b : Bool) (z : Nat) : List PV → Bool
  | [] => true
  | x :: l => PV.nm b z x && PV.nmL b z l
end

def Res.nm (b : Bool) (z : Nat) : Res → Bool
  | .blk _ cs => PV.nmL b z cs
  | _ => true

theorem PV.renL_get (d : Nat) : ∀ (l : List PV) (j : Nat), (PV.renL d l)[j]? = (l[j]?).map (PV.ren d)
  | [], j => by simp [PV.renL]
  | x :: l, 0 => by simp [PV.renL]
  | x :: l, j + 1 => by simp [PV.renL, PV.renL_get d l j]

theorem PV.renL_length (d : Nat) : ∀ (l : List PV), (PV.renL d l).length = l.length
  | [] => rfl
  | x :: l => by simp [PV.renL, PV.renL_length d l]

theorem PV.nmL_get {b : Bool} {z : Nat} : ∀ {l : List PV} {j : Nat} {x : PV}, PV.nmL b z l = true → l[j]? = some x → x.nm b z = true
  | [], j, x, _, h => by simp at h
  | y :: l, 0, x, hm, h => by
    simp [PV.nmL] at h hm
    subst h
    exact hm.1
  | y :: l, j + 1, x, hm, h => by
    simp only [PV.nmL, Bool.and_eq_true] at hm
    exact PV.nmL_get hm.2 (by simpa using h)

theorem PV.noRoL_get : ∀ {l : List PV} {j : Nat} {x : PV}, PV.noRoL l = true → l[j]? = some x → x.noRo = true
  | [], j, x, _, h => by simp at h
  | y :: l, 0, x, hm, h => by
    simp [PV.noRoL] at h hm
    subst h
    exact hm.1
  | y :: l, j + 1, x, hm, h => by
    simp only [PV.noRoL, Bool.and_eq_true] at hm
    exact PV.noRoL_get hm.2 (by simpa using h)

/-- A result, renamed and taken over; if something was lent, it reads nothing old. -/
theorem PVRep.take {w : World} {φ φ' : Nat → Value} {St St' : Kind → Nat → Prop} {d z : Nat} {lent own : Bool} (hfz : ∀ g, St .fz g → St' .fz g) (hro : lent = false → ∀ g, St .ro g → St' .ro g) (hφ : own = true → φ' d = φ z) {x : PV} {v : Value} (h : PVRep w φ St x v) :
    (lent = true → x.noRo = true) → x.nm own z = true → PVRep w φ' St' (x.ren d) v := by
  induction h with
  | @t k x v h =>
    intro hn _
    cases k with
    | fz => exact .t (h.mono (fun _ _ => rfl) hfz)
    | ro =>
      cases hl : lent with
      | false => exact .t (h.mono (fun _ _ => rfl) (hro hl))
      | true =>
        have := hn hl
        cases x <;> simp [PV.noRo] at this
        cases h
        exact .t (.v _)
  | ptr h =>
    intro _ hm
    simp only [PV.nm, Bool.and_eq_true, beq_iff_eq] at hm
    obtain ⟨h1, rfl⟩ := hm
    exact .ptr ((hφ h1).trans h)
  | osl h =>
    intro _ hm
    simp only [PV.nm, Bool.and_eq_true, beq_iff_eq] at hm
    obtain ⟨h1, rfl⟩ := hm
    exact .osl ((hφ h1).trans h)
  | oep h =>
    intro _ hm
    simp only [PV.nm, Bool.and_eq_true, beq_iff_eq] at hm
    obtain ⟨h1, rfl⟩ := hm
    exact .oep ((hφ h1).trans h)
  | omp h =>
    intro _ hm
    simp only [PV.nm, Bool.and_eq_true, beq_iff_eq] at hm
    obtain ⟨h1, rfl⟩ := hm
    exact .omp ((hφ h1).trans h)
  | clo vs hs hrep ih =>
    intro hn hm
    refine .clo vs (by rw [PV.renL_length]; exact hs) fun j x hx => ?_
    rw [PV.renL_get] at hx
    obtain ⟨y, hy, rfl⟩ := Option.map_eq_some_iff.1 hx
    exact ih j y hy (fun hl => PV.noRoL_get (by simpa [PV.noRo] using hn hl) hy) (PV.nmL_get (by simpa [PV.nm] using hm) hy)
  | agg vs hs hrep ih =>
    intro hn hm
    refine .agg vs (by rw [PV.renL_length]; exact hs) fun j x hx => ?_
    rw [PV.renL_get] at hx
    obtain ⟨y, hy, rfl⟩ := Option.map_eq_some_iff.1 hx
    exact ih j y hy (fun hl => PV.noRoL_get (by simpa [PV.noRo] using hn hl) hy) (PV.nmL_get (by simpa [PV.nm] using hm) hy)
  | tup vs hs hrep ih =>
    intro hn hm
    refine .tup vs (by rw [PV.renL_length]; exact hs) fun j x hx => ?_
    rw [PV.renL_get] at hx
    obtain ⟨y, hy, rfl⟩ := Option.map_eq_some_iff.1 hx
    exact ih j y hy (fun hl => PV.noRoL_get (by simpa [PV.noRo] using hn hl) hy) (PV.nmL_get (by simpa [PV.nm] using hm) hy)
  | undef v => exact fun _ _ => .undef v

theorem ResRep.take {w : World} {φ φ' : Nat → Value} {St St' : Kind → Nat → Prop} {d z : Nat} {lent : Bool} (hfz : ∀ g, St .fz g → St' .fz g) (hro : lent = false → ∀ g, St .ro g → St' .ro g) (hφ : φ' d = φ z) {r : Res} {v : Value} {F : Nat → Prop}
    (h : ResRep w φ St r v F) (hn : lent = true → r.noRo = true) (hm : r.nm true z = true) : ResRep w φ' St' (r.ren d) v F := by
  cases r with
  | dead => exact h
  | blk ty cs =>
    obtain ⟨g, vs, hv, hF, hh, hs, hr⟩ := h
    refine ⟨g, vs, hv, hF, hh, by rw [PV.renL_length]; exact hs, fun j x hx => ?_⟩
    rw [PV.renL_get] at hx
    obtain ⟨y, hy, rfl⟩ := Option.map_eq_some_iff.1 hx
    exact (hr j y hy).take (lent := lent) (own := true) hfz hro (fun _ => hφ) (fun hl => PV.noRoL_get (by simpa [Res.noRo] using hn hl) hy) (PV.nmL_get (by simpa [Res.nm] using hm) hy)
  | row ty sz k xs =>
    obtain ⟨cells, ho, hb, hl, hr⟩ := h
    refine ⟨cells, ho, hb, hl, fun i j e x he hx => (hr i j e x he hx).mono (fun _ _ => rfl) fun g hg => ?_⟩
    cases k with
    | fz => exact hfz g hg
    | ro =>
      cases hle : lent with
      | false => exact hro hle g hg
      | true =>
        have h9 := hn hle
        exact absurd h9 (by simp [Res.noRo])

/-- The state behind a call that returned r. -/
def retS (s : StL) (d : Nat) (r : PV) : List (Nat × Res) → Option StL
  | [] => if r.nm false 0 = true then some ⟨(d, r.ren d) :: s.T, s.M⟩ else none
  | [(0, res)] => if r.nm true 0 = true ∧ res.nm true 0 = true ∧ s.free d = true then some ⟨(d, r.ren d) :: s.T, (d, res.ren d) :: s.M⟩ else none
  | _ => none

section
variable {P : Program} {w0 : Base} {F0 : Nat → Prop} {n : Nat} {s : StL} {a : Act} {w : World} {φ : Nat → Value} {fp : Nat → Nat → Prop}

def SL (w0 : Base) (w : World) (fp : Nat → Nat → Prop) (b : Bool) (g : Nat) : Prop := g < w.heap.size ∧ (b = true ∨ Stb w0 w fp .ro g)

theorem SL.of (k : Kind) (b : Bool) {g : Nat} (h : Stb w0 w fp k g) : SL w0 w fp b g := ⟨h.1, .inr ⟨h.1, h.2.1, h.2.2.imp id fun e => ⟨rfl, e.2⟩⟩⟩
theorem SL.mono {b b' : Bool} (hb : b = true → b' = true) {g : Nat} (h : SL w0 w fp b g) : SL w0 w fp b' g := ⟨h.1, h.2.imp hb id⟩

theorem optL_rep {f : PV → Option (Bool × TL)} (hf : ∀ p b x v, f p = some (b, x) → PVRep w φ (Stb w0 w fp) p v → TRep w (SL w0 w fp b) x v) : ∀ {ps : List PV} {b : Bool} {xs : List TL}, optL f ps = some (b, xs) →
    xs.length = ps.length ∧ ∀ (vs : Nat → Value), (∀ (j : Nat) (p : PV), ps[j]? = some p → PVRep w φ (Stb w0 w fp) p (vs j)) → ∀ (j : Nat) (x : TL), xs[j]? = some x → TRep w (SL w0 w fp b) x (vs j)
  | [], b, xs, h => by
    simp only [optL, Option.some.injEq, Prod.mk.injEq] at h
    obtain ⟨rfl, rfl⟩ := h
    exact ⟨rfl, fun vs _ j x hx => by simp at hx⟩
  | p :: ps, b, xs, h => by
    simp only [optL] at h
    split at h
    · rename_i b1 x b2 xs' h1 h2
      simp only [Option.some.injEq, Prod.mk.injEq] at h
      obtain ⟨rfl, rfl⟩ := h
      obtain ⟨hl, hr⟩ := optL_rep hf h2
      refine ⟨by simp [hl], fun vs hv j y hy => ?_⟩
      cases j with
      | zero =>
        simp at hy
        subst hy
        exact (hf p b1 x _ h1 (hv 0 p (by simp))).mono (fun _ _ => rfl) fun g hg => hg.mono (by intro h; simp [h])
      | succ j =>
        exact (hr (fun j => vs (j + 1)) (fun j p hp => hv (j + 1) p (by simpa using hp)) j y (by simpa using hy)).mono (fun _ _ => rfl) fun g hg => hg.mono (by intro h; simp [h])
    · cases h

theorem lendPV_rep (h : SimX w0 F0 n s a w φ fp) : ∀ (d : Nat) (p : PV) (b : Bool) (x : TL) (v : Value), lendPV d s p = some (b, x) → PVRep w φ (Stb w0 w fp) p v → TRep w (SL w0 w fp b) x v
  | 0, p, b, x, v, hq, _ => by simp [lendPV] at hq
  | d + 1, p, b, x, v, hq, hp => by
    have ih := lendPV_rep h d
    cases p with
    | t k y =>
      simp only [lendPV, Option.some.injEq, Prod.mk.injEq] at hq
      obtain ⟨rfl, rfl⟩ := hq
      exact hp.t_inv.mono (fun _ _ => rfl) fun g hg => SL.of k _ hg
    | osl m =>
      simp only [lendPV] at hq
      split at hq
      · rename_i ty sz k xs hM
        simp only [Option.some.injEq, Prod.mk.injEq] at hq
        obtain ⟨rfl, rfl⟩ := hq
        cases hp with
        | @osl _ len cap ao hφ =>
        have hres := h.res m
        rw [hM] at hres
        obtain ⟨cells, hown, hbd, hlen, hrep⟩ := hres
        rw [hφ] at hown
        rcases hown with ⟨hown, hF⟩ | ⟨rfl, ⟨ao', hv⟩, _⟩
        · rcases hown.2 with ⟨hv, hz⟩ | ⟨g, cap', cur, hv, _, hh, hle, _, _⟩
          · cases hv
            have hx : xs = [] := List.eq_nil_of_length_eq_zero hz
            subst hx
            exact .sl (cap := 0) (fun _ _ => Go.undef) (Nat.le_refl _) (by simp) (by simp) (by simp) (by simp) (.inl rfl) (by simp) (fun i j e x he => by simp at he)
          · cases hv
            refine .sl (fun i j => cells.getD (i * sz + j) Go.undef) hle (by simp) (by simp) (by simp) hbd (.inr ⟨g, 0, rfl, ?_, fun i j hi hj => ?_⟩) hlen fun i j e x he hx => (hrep i j e x he hx).mono (fun _ _ => rfl) fun g hg => SL.of k _ hg
            · exact ⟨(h.old m g ((hF g).2 rfl)).1, .inl rfl⟩
            · have hidx : i * sz + j < cells.length := by
                rw [hown.1]
                have : (i + 1) * sz ≤ xs.length * sz := Nat.mul_le_mul_right _ hi
                rw [Nat.add_mul] at this
                omega
              have h1 := hown.cells (g := g) rfl (i * sz + j) _ (List.getElem?_eq_getElem hidx)
              rw [addr_add, Nat.zero_add] at h1
              rw [Nat.zero_add, h1, List.getD_eq_getElem?_getD, List.getElem?_eq_getElem hidx]
              rfl
        · cases hv
          exact .sl (cap := 0) (fun _ _ => Go.undef) (Nat.le_refl _) (by simp) (by simp) (by simp) (by simp) (.inl rfl) (by simp) (fun i j e x he => by simp at he)
      · cases hq
    | ptr m off =>
      simp only [lendPV] at hq
      split at hq
      · rename_i ty cs hM
        split at hq
        · rename_i b' xs hxs
          simp only [Option.some.injEq, Prod.mk.injEq] at hq
          obtain ⟨rfl, rfl⟩ := hq
          cases hp with
          | @ptr _ _ g hφ =>
          have hres := h.res m
          rw [hM] at hres
          obtain ⟨g', vs, hv, hF, hh, hs, hr⟩ := hres
          rw [hφ] at hv
          cases hv
          obtain ⟨hl, hr'⟩ := optL_rep (fun p b x v => ih p b x v) hxs
          have hb : SL w0 w fp true g := ⟨(h.old m g ((hF g).2 rfl)).1, .inl rfl⟩
          have := TRep.rp (w := w) (S := SL w0 w fp true) (cs := xs) (off := off) (b := g) (o := 0) (fun j => vs.getD j Go.undef) hb (fun j hj => by
            rw [Nat.zero_add, cell_of_row w g j vs ty (0, 0) hh]
            have : j < vs.size := by omega
            simp [this]) (fun j x hx => (hr' (fun j => vs.getD j Go.undef) hr j x hx).mono (fun _ _ => rfl) fun g hg => hg.mono (by simp))
          rwa [Nat.zero_add] at this
        · cases hq
      · cases hq
    | clo f caps =>
      simp only [lendPV] at hq
      split at hq
      · rename_i b' xs hxs
        simp only [Option.some.injEq, Prod.mk.injEq] at hq
        obtain ⟨rfl, rfl⟩ := hq
        cases hp with
        | clo vs hs hr =>
        obtain ⟨hl, hr'⟩ := optL_rep (fun p b x v => ih p b x v) hxs
        exact .clo vs (by omega) fun j x hx => hr' (fun j => vs.getD j Go.undef) hr j x hx
      · cases hq
    | agg cs =>
      simp only [lendPV] at hq
      split at hq
      · rename_i b' xs hxs
        simp only [Option.some.injEq, Prod.mk.injEq] at hq
        obtain ⟨rfl, rfl⟩ := hq
        cases hp with
        | agg vs hs hr =>
        obtain ⟨hl, hr'⟩ := optL_rep (fun p b x v => ih p b x v) hxs
        exact .agg vs (by omega) fun j x hx => hr' (fun j => vs.getD j Go.undef) hr j x hx
      · cases hq
    | oep => simp [lendPV] at hq
    | omp => simp [lendPV] at hq
    | tup => simp [lendPV] at hq
    | undef => simp [lendPV] at hq

/-- A call, by its contract. -/
theorem call_sim (h : SimX w0 F0 n s a w φ fp) {f d : Nat} {pvs : List PV} {vals : Array Value} {b : Bool} {tls : List TL} {r : PV} {Mr : List (Nat × Res)} {s' : StL} (hdn : d < n)
    (hv : vals.size = pvs.length) (hp : ∀ (j : Nat) (p : PV), pvs[j]? = some p → PVRep w φ (Stb w0 w fp) p (vals.getD j Go.undef)) (hl : optL (lendPV 5 s) pvs = some (b, tls)) (hc : PCall P f tls r Mr)
    (hno : b = true → r.noRo = true ∧ Mr.all (fun p => p.2.noRo) = true) (hr : retS s d r Mr = some s') :
    Calls P f vals w fun e w' => ∃ v, e = .returned v ∧ Sim w0 F0 n s' (a.put (some d) v) w' := by
  obtain ⟨hlen, hrep⟩ := optL_rep (fun p b x v => lendPV_rep h 5 p b x v) hl
  refine (hc.2 w (SL w0 w fp b) vals (fun g hg => hg.1) (by omega) (fun i x hx => hrep (fun j => vals.getD j Go.undef) hp i x hx)).mono ?_
  rintro e w' ⟨v, φc, fpc, rfl, hevo, hres, hdisj, hold, hrv⟩
  refine ⟨v, rfl, ?_⟩
  have hheap : ∀ g, g < w.heap.size → w'.heap[g]? = w.heap[g]? := fun g hg => hevo.block g hg (by simp)
  have hevo' : Evo F0 w0.w w' := ⟨hevo.os.trans h.evo.os, hevo.tape.trans h.evo.tape, hevo.output.trans h.evo.output, Nat.le_trans h.evo.size hevo.size,
    fun g hg hF => (hheap g (Nat.lt_of_lt_of_le hg h.evo.size)).trans (h.evo.block g hg hF)⟩
  unfold retS at hr
  split at hr
  · -- nothing is owned
    split at hr
    · rename_i hnm
      cases hr
      have hS : ∀ k g, Stb w0 w fp k g → Stb w0 w' fp k g := fun k g hg => ⟨Nat.lt_of_lt_of_le hg.1 hevo.size, hg.2⟩
      have hSc : ∀ k g, Stb w0 w fp k g → w'.heap[g]? = w.heap[g]? := fun k g hg => hheap g hg.1
      have h' : SimX w0 F0 n s a w' φ fp :=
        ⟨fun m => (h.res m).keep (fun g hg => hheap g (h.old m g hg).1) hSc hS, h.disj, fun m g hm => ⟨Nat.lt_of_lt_of_le (h.old m g hm).1 hevo.size, (h.old m g hm).2⟩, fun t => (h.tmp t).mono hSc hS, hevo', h.size, h.dfr, h.fix⟩
      refine ⟨φ, fp, h'.put hdn (hrv.take (lent := b) (own := false) (fun g hg => ?_) (fun hb g hg => ?_) (by simp) (fun hb => (hno hb).1) hnm)⟩
      · refine ⟨hg.1, fun m hm => ?_, .inl (.inl ?_)⟩
        · have := (h.old m g hm).1
          rcases Stb.inv hg with h1 | h1
          · omega
          · cases h1.1
        · rcases Stb.inv hg with h1 | h1
          · have := h.evo.size; omega
          · cases h1.1
      · rcases Stb.inv hg with h1 | ⟨_, h1⟩
        · refine ⟨hg.1, fun m hm => ?_, .inl (.inl ?_)⟩
          · have := (h.old m g hm).1; omega
          · have := h.evo.size; omega
        · have := h1.2.resolve_left (by simp [hb])
          exact hS _ _ this
    · cases hr
  · -- one name
    rename_i res
    split at hr
    · rename_i hcond
      obtain ⟨hnm, hnr, hfree⟩ := hcond
      cases hr
      simp only [StL.free, Bool.and_eq_true] at hfree
      have hno' : b = true → res.noRo = true := fun hb => by have := (hno hb).2; simpa using this
      have hF' : ∀ g, fpc 0 g → (fp d g ∨ w.heap.size ≤ g) ∧ g < w'.heap.size := fun g hg => ⟨.inr (hold 0 g hg).1, (hold 0 g hg).2⟩
      have hdead := Res.eq_dead hfree.2.1
      have hfd : ∀ g, ¬ fp d g := by
        have := h.res d
        rw [hdead] at this
        exact this
      -- what stays, for the caller
      have key : ∀ fp' : Nat → Nat → Prop, (∀ m g, fp' m g → fpc 0 g ∨ fp m g) → (∀ k g, Stb w0 w fp k g → Stb w0 w' fp' k g) →
          (∀ g, Stb (Base.of w (SL w0 w fp b)) w' fpc .fz g → Stb w0 w' fp' .fz g) ∧ (b = false → ∀ g, Stb (Base.of w (SL w0 w fp b)) w' fpc .ro g → Stb w0 w' fp' .ro g) := by
        intro fp' hfp' hS
        refine ⟨fun g hg => ?_, fun hb g hg => ?_⟩
        · have hge : w.heap.size ≤ g := by
            rcases Stb.inv hg with h1 | h1
            · exact h1
            · cases h1.1
          refine ⟨hg.1, fun m hm => ?_, .inl (.inl (by have := h.evo.size; omega))⟩
          rcases hfp' m g hm with h1 | h1
          · exact hg.2.1 0 h1
          · have := (h.old m g h1).1; omega
        · rcases Stb.inv hg with h1 | ⟨_, h1⟩
          · refine ⟨hg.1, fun m hm => ?_, .inl (.inl (by have := h.evo.size; omega))⟩
            rcases hfp' m g hm with h2 | h2
            · exact hg.2.1 0 h2
            · have := (h.old m g h2).1; omega
          · exact hS _ _ (h1.2.resolve_left (by simp [hb]))
      let φ' : Nat → Value := fun q => if q = d then φc 0 else φ q
      let fp' : Nat → Nat → Prop := fun q g => if q = d then fpc 0 g else fp q g
      have hne : ∀ q, q ≠ d → φ' q = φ q := fun q hq => by simp [φ', hq]
      have e2 : φ' d = φc 0 := by simp [φ']
      have hfp' : ∀ m g, fp' m g → fpc 0 g ∨ fp m g := by
        intro m g hm
        simp only [fp'] at hm
        by_cases e : m = d
        · rw [if_pos e] at hm; exact .inl hm
        · rw [if_neg e] at hm; exact .inr hm
      have hS : ∀ k g, Stb w0 w fp k g → Stb w0 w' fp' k g := by
        intro k g hg
        refine ⟨Nat.lt_of_lt_of_le hg.1 hevo.size, fun q hq => ?_, hg.2.2⟩
        rcases hfp' q g hq with h1 | h1
        · have := (hold 0 g h1).1; have := hg.1; omega
        · exact hg.2.1 q h1
      have hSc : ∀ k g, Stb w0 w fp k g → w'.heap[g]? = w.heap[g]? := fun k g hg => hheap g hg.1
      obtain ⟨hk1, hk2⟩ := key fp' hfp' hS
      have h' : SimX w0 F0 n ⟨s.T, (d, res.ren d) :: s.M⟩ a w' φ' fp' := by
        refine ⟨fun q => ?_, fun q q' g h1 h2 => ?_, fun q g hq => ?_, fun t => ?_, hevo', h.size, h.dfr, fun q hq => (hne q (by have := of_decide_eq_true hfree.2.2; omega)).trans (h.fix q hq)⟩
        · show ResRep _ _ _ (getM ((d, res.ren d) :: s.M) q) _ _
          simp only [getM]
          by_cases e : d = q
          · subst e
            rw [if_pos rfl]
            have e1 : fp' d = fpc 0 := by funext g; simp [fp']
            rw [e1, e2]
            have h0 := hres 0
            simp only [getM, if_true] at h0
            exact h0.take (lent := b) hk1 hk2 e2 hno' hnr
          · rw [if_neg e]
            have e1 : fp' q = fp q := by funext g; simp [fp', Ne.symm e]
            rw [e1, hne q (Ne.symm e)]
            refine ((h.res q).keep (fun g hg => hheap g (h.old q g hg).1) hSc hS).rename fun q' hq' => hne q' ?_
            rintro rfl
            have := getM_men hfree.1.2 q
            rw [this] at hq'; cases hq'
        · simp only [fp'] at h1 h2
          by_cases e1 : q = d <;> by_cases e3 : q' = d
          · rw [e1, e3]
          · rw [if_pos e1] at h1; rw [if_neg e3] at h2
            have := (hold 0 g h1).1; have := (h.old q' g h2).1; omega
          · rw [if_neg e1] at h1; rw [if_pos e3] at h2
            have := (hold 0 g h2).1; have := (h.old q g h1).1; omega
          · rw [if_neg e1] at h1; rw [if_neg e3] at h2
            exact h.disj q q' g h1 h2
        · simp only [fp'] at hq
          by_cases e1 : q = d
          · rw [if_pos e1] at hq
            have h3 := hold 0 g hq
            have := h.evo.size
            exact ⟨h3.2, .inr (by omega)⟩
          · rw [if_neg e1] at hq
            have h3 := h.old q g hq
            exact ⟨Nat.lt_of_lt_of_le h3.1 hevo.size, h3.2⟩
        · refine ((h.tmp t).mono hSc hS).rename fun q' hq' => hne q' ?_
          rintro rfl
          have := getT_men hfree.1.1 t
          rw [this] at hq'; cases hq'
      exact ⟨φ', fp', h'.put hdn (hrv.take (lent := b) (own := true) hk1 hk2 (fun _ => e2) (fun hb => (hno hb).1) hnm)⟩
    · cases hr
  · cases hr

end
end Go.PS
