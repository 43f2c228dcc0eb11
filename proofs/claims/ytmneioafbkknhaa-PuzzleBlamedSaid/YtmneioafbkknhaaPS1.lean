/- PS1: trees, values with names, and how a world represents them. No program in sight. -/
import Derived.WalkKit
set_option linter.unusedVariables false
namespace Go.PS
open Go

/-- What is known of a slice's capacity and of whether it is nil. -/
inductive SF where | any | tight | nn
  deriving DecidableEq

/-- Data without names: what never changes while it is looked at. -/
inductive TL where
  | v (x : Value)
  | sl (t : SF) (sz : Nat) (xs : List (List TL))
  | rp (cs : List TL) (off : Nat)
  | clo (f : Nat) (caps : List TL)
  | agg (cs : List TL)
  | tup (cs : List TL)

/-- A world represents a tree by a value; all memory that it reads lies in S. -/
inductive TRep (w : World) (S : Nat → Prop) : TL → Value → Prop
  | v (x : Value) : TRep w S (.v x) x
  | sl {t : SF} {sz : Nat} {xs : List (List TL)} {a : Option Addr} {cap : Nat} (g : Nat → Nat → Value)
      (hcap : xs.length ≤ cap) (ht : t = .tight → cap = xs.length) (hnn : t = .nn → a ≠ none) (hnil : a = none → cap = 0) (hbd : xs.length ≤ 140737488355328)
      (ha : xs = [] ∨ ∃ b o, a = some ⟨b, o, none⟩ ∧ S b ∧ ∀ i j, i < xs.length → j < sz → w.cell? ⟨b, o + (i * sz + j), none⟩ = some (g i j))
      (hlen : ∀ e ∈ xs, e.length = sz)
      (hrep : ∀ (i j : Nat) (e : List TL) (x : TL), xs[i]? = some e → e[j]? = some x → TRep w S x (g i j)) :
      TRep w S (.sl t sz xs) (.slice a xs.length cap)
  | rp {cs : List TL} {off b o : Nat} (g : Nat → Value) (hb : S b)
      (hc : ∀ j, j < cs.length → w.cell? ⟨b, o + j, none⟩ = some (g j))
      (hrep : ∀ (j : Nat) (x : TL), cs[j]? = some x → TRep w S x (g j)) :
      TRep w S (.rp cs off) (.pointer (some ⟨b, o + off, none⟩))
  | clo {f : Nat} {caps : List TL} (vs : Array Value) (hs : vs.size = caps.length)
      (hrep : ∀ (j : Nat) (x : TL), caps[j]? = some x → TRep w S x (vs.getD j undef)) :
      TRep w S (.clo f caps) (.func (.func f) #[] vs)
  | agg {cs : List TL} (vs : Array Value) (hs : vs.size = cs.length)
      (hrep : ∀ (j : Nat) (x : TL), cs[j]? = some x → TRep w S x (vs.getD j undef)) :
      TRep w S (.agg cs) (.agg vs)
  | tup {cs : List TL} (vs : Array Value) (hs : vs.size = cs.length)
      (hrep : ∀ (j : Nat) (x : TL), cs[j]? = some x → TRep w S x (vs.getD j undef)) :
      TRep w S (.tup cs) (.tuple vs)

theorem TRep.mono {w w' : World} {S S' : Nat → Prop} (hc : ∀ g, S g → w'.heap[g]? = w.heap[g]?) (hS : ∀ g, S g → S' g) {x : TL} {v : Value} (h : TRep w S x v) : TRep w' S' x v := by
  induction h with
  | v x => exact .v x
  | sl g hcap ht hnn hnil hbd ha hlen hrep ih =>
    refine .sl g hcap ht hnn hnil hbd ?_ hlen ih
    rcases ha with ha | ⟨b, o, ha, hb, hcell⟩
    · exact .inl ha
    · exact .inr ⟨b, o, ha, hS _ hb, fun i j hi hj => (World.cell?_of_block (w := w) (hc b hb)).trans (hcell i j hi hj)⟩
  | rp g hb hcell hrep ih => exact .rp g (hS _ hb) (fun j hj => (World.cell?_of_block (w := w) (hc _ hb)).trans (hcell j hj)) ih
  | clo vs hs hrep ih => exact .clo vs hs ih
  | agg vs hs hrep ih => exact .agg vs hs ih
  | tup vs hs hrep ih => exact .tup vs hs ih

inductive Kind where | ro | fz
  deriving DecidableEq

/-- What a temporary or a cell of the call's own holds. -/
inductive PV where
  | t (k : Kind) (x : TL)
  | ptr (n off : Nat)
  | osl (n : Nat)
  | oep (n sz i off : Nat)
  | clo (f : Nat) (caps : List PV)
  | agg (cs : List PV)
  | tup (cs : List PV)
  | omp (n : Nat)
  | undef

/-- Memory of the call's own, by name. -/
inductive Res where
  | dead
  | blk (ty : Nat) (cs : List PV)
  | row (ty sz : Nat) (k : Kind) (xs : List (List TL))

mutual
def PV.men (m : Nat) : PV → Bool
  | .t _ _ => false
  | .ptr n _ => n == m
  | .osl n => n == m
  | .oep n _ _ _ => n == m
  | .omp n => n == m
  | .clo _ caps => PV.menL m caps
  | .agg cs => PV.menL m cs
  | .tup cs => PV.menL m cs
  | .undef => false
def PV.menL (m : Nat) : List PV → Bool
  | [] => false
  | x :: l => PV.men m x || PV.menL m l
end

theorem PV.menL_get {m : Nat} : ∀ {l : List PV} {j : Nat} {x : PV}, l[j]? = some x → PV.menL m l = false → x.men m = false
  | [], j, x, h, _ => by simp at h
  | y :: l, 0, x, h, hm => by
    simp [PV.menL] at h hm
    subst h
    exact hm.1
  | y :: l, j + 1, x, h, hm => by
    simp only [PV.menL, Bool.or_eq_false_iff] at hm
    exact PV.menL_get (by simpa using h) hm.2

def Res.men (m : Nat) : Res → Bool
  | .dead => false
  | .blk _ cs => PV.menL m cs
  | .row _ _ _ _ => false

inductive PVRep (w : World) (φ : Nat → Value) (St : Kind → Nat → Prop) : PV → Value → Prop
  | t {k : Kind} {x : TL} {v : Value} (h : TRep w (St k) x v) : PVRep w φ St (.t k x) v
  | ptr {n off g : Nat} (h : φ n = .pointer (some ⟨g, 0, none⟩)) : PVRep w φ St (.ptr n off) (.pointer (some ⟨g, off, none⟩))
  | osl {n len cap : Nat} {ao : Option Addr} (h : φ n = .slice ao len cap) : PVRep w φ St (.osl n) (.slice ao len cap)
  | oep {n sz i off g len cap : Nat} (h : φ n = .slice (some ⟨g, 0, none⟩) len cap) : PVRep w φ St (.oep n sz i off) (.pointer (some ⟨g, i * sz + off, none⟩))
  | omp {n : Nat} {r : Option Nat} (h : φ n = .map r) : PVRep w φ St (.omp n) (.map r)
  | clo {f : Nat} {caps : List PV} (vs : Array Value) (hs : vs.size = caps.length)
      (hrep : ∀ (j : Nat) (x : PV), caps[j]? = some x → PVRep w φ St x (vs.getD j Go.undef)) :
      PVRep w φ St (.clo f caps) (.func (.func f) #[] vs)
  | agg {cs : List PV} (vs : Array Value) (hs : vs.size = cs.length)
      (hrep : ∀ (j : Nat) (x : PV), cs[j]? = some x → PVRep w φ St x (vs.getD j Go.undef)) :
      PVRep w φ St (.agg cs) (.agg vs)
  | tup {cs : List PV} (vs : Array Value) (hs : vs.size = cs.length)
      (hrep : ∀ (j : Nat) (x : PV), cs[j]? = some x → PVRep w φ St x (vs.getD j Go.undef)) :
      PVRep w φ St (.tup cs) (.tuple vs)
  | undef (v : Value) : PVRep w φ St .undef v

theorem PVRep.mono {w w' : World} {φ : Nat → Value} {St St' : Kind → Nat → Prop} (hc : ∀ k g, St k g → w'.heap[g]? = w.heap[g]?) (hS : ∀ k g, St k g → St' k g) {x : PV} {v : Value} (h : PVRep w φ St x v) : PVRep w' φ St' x v := by
  induction h with
  | t h => exact .t (h.mono (hc _) (hS _))
  | ptr h => exact .ptr h
  | osl h => exact .osl h
  | oep h => exact .oep h
  | omp h => exact .omp h
  | clo vs hs hrep ih => exact .clo vs hs ih
  | agg vs hs hrep ih => exact .agg vs hs ih
  | tup vs hs hrep ih => exact .tup vs hs ih
  | undef v => exact .undef v

theorem PVRep.rename {w : World} {φ φ' : Nat → Value} {St : Kind → Nat → Prop} {x : PV} {v : Value} (h : PVRep w φ St x v) : (∀ m, x.men m = true → φ' m = φ m) → PVRep w φ' St x v := by
  induction h with
  | t h => exact fun _ => .t h
  | ptr h => exact fun hm => .ptr ((hm _ (by simp [PV.men])).trans h)
  | osl h => exact fun hm => .osl ((hm _ (by simp [PV.men])).trans h)
  | oep h => exact fun hm => .oep ((hm _ (by simp [PV.men])).trans h)
  | omp h => exact fun hm => .omp ((hm _ (by simp [PV.men])).trans h)
  | clo vs hs hrep ih =>
    intro hm
    refine .clo vs hs fun j x hx => ih j x hx fun m hxm => hm m ?_
    cases hb : PV.menL m _ with
    | true => simpa [PV.men] using hb
    | false => rw [PV.menL_get hx hb] at hxm; cases hxm
  | agg vs hs hrep ih =>
    intro hm
    refine .agg vs hs fun j x hx => ih j x hx fun m hxm => hm m ?_
    cases hb : PV.menL m _ with
    | true => simpa [PV.men] using hb
    | false => rw [PV.menL_get hx hb] at hxm; cases hxm
  | tup vs hs hrep ih =>
    intro hm
    refine .tup vs hs fun j x hx => ih j x hx fun m hxm => hm m ?_
    cases hb : PV.menL m _ with
    | true => simpa [PV.men] using hb
    | false => rw [PV.menL_get hx hb] at hxm; cases hxm
  | undef v => exact fun _ => .undef v

/-- A name's memory, in block F. -/
def ResRep (w : World) (φ : Nat → Value) (St : Kind → Nat → Prop) (r : Res) (v : Value) (F : Nat → Prop) : Prop :=
  match r with
  | .dead => ∀ g, ¬ F g
  | .blk ty cs => ∃ g vs, v = .pointer (some ⟨g, 0, none⟩) ∧ (∀ h, F h ↔ h = g) ∧ w.heap[g]? = some (.cells vs ty (0, 0)) ∧ vs.size = cs.length ∧
      ∀ (j : Nat) (x : PV), cs[j]? = some x → PVRep w φ St x (vs.getD j Go.undef)
  | .row ty sz k xs => ∃ cells : List Value, ((w.ownsRow 0 ty sz v xs.length cells ∧ ∀ h, F h ↔ v.ownBlock = some h) ∨ (xs = [] ∧ (∃ ao, v = .slice ao 0 0) ∧ ∀ h, ¬ F h)) ∧ xs.length ≤ 140737488355328 ∧ (∀ e ∈ xs, e.length = sz) ∧
      ∀ (i j : Nat) (e : List TL) (x : TL), xs[i]? = some e → e[j]? = some x → TRep w (St k) x (cells.getD (i * sz + j) Go.undef)

/-- Below block w0.w.heap.size nothing has turned but in F0. -/
structure Evo (F0 : Nat → Prop) (w0 w : World) : Prop where
  os : w.os = w0.os
  tape : w.tape = w0.tape
  output : w.output = w0.output
  size : w0.heap.size ≤ w.heap.size
  block : ∀ g, g < w0.heap.size → ¬ F0 g → w.heap[g]? = w0.heap[g]?

theorem Evo.refl (F0 : Nat → Prop) (w : World) : Evo F0 w w := ⟨rfl, rfl, rfl, Nat.le_refl _, fun _ _ _ => rfl⟩

/-- Where a call began: the world, and what its arguments may read. -/
structure Base where
  w : World
  S : Nat → Prop
  F : Nat → Prop
  fix : Nat → Value
abbrev Base.of (w : World) (S : Nat → Prop) : Base := ⟨w, S, fun _ => False, fun _ => Go.undef⟩

/-- What stays as it is: not of the call's own; of kind fz: made by this call. -/
def Stb (w0 : Base) (w : World) (fp : Nat → Nat → Prop) (k : Kind) (g : Nat) : Prop :=
  g < w.heap.size ∧ (∀ m, ¬ fp m g) ∧ ((w0.w.heap.size ≤ g ∨ w0.F g) ∨ (k = .ro ∧ w0.S g))

theorem Stb.inv {w w' : World} {S : Nat → Prop} {fp : Nat → Nat → Prop} {k : Kind} {g : Nat} (h : Stb (Base.of w S) w' fp k g) : w.heap.size ≤ g ∨ (k = .ro ∧ S g) := h.2.2.imp (fun h => h.resolve_right fun h => h) id

def getT : List (Nat × PV) → Nat → PV
  | [], _ => .undef
  | (k, p) :: l, t => if k = t then p else getT l t

def getM : List (Nat × Res) → Nat → Res
  | [], _ => .dead
  | (k, r) :: l, n => if k = n then r else getM l n

structure StL where
  T : List (Nat × PV)
  M : List (Nat × Res)

structure SimX (w0 : Base) (F0 : Nat → Prop) (n : Nat) (s : StL) (a : Act) (w : World) (φ : Nat → Value) (fp : Nat → Nat → Prop) : Prop where
  res : ∀ m, ResRep w φ (Stb w0 w fp) (getM s.M m) (φ m) (fp m)
  disj : ∀ m m' g, fp m g → fp m' g → m = m'
  old : ∀ m g, fp m g → g < w.heap.size ∧ (F0 g ∨ w0.w.heap.size ≤ g)
  tmp : ∀ t, PVRep w φ (Stb w0 w fp) (getT s.T t) (a.tmps.getD t Go.undef)
  evo : Evo F0 w0.w w
  size : a.tmps.size = n
  dfr : a.defers = [] ∧ (∀ g, F0 g → w0.F g)
  fix : ∀ m, 1000000 ≤ m → φ m = w0.fix m

def Sim (w0 : Base) (F0 : Nat → Prop) (n : Nat) (s : StL) (a : Act) (w : World) : Prop := ∃ φ fp, SimX w0 F0 n s a w φ fp

theorem getD_set {vs : Array Value} {d t : Nat} {v : Value} (hd : d < vs.size) : (vs.setIfInBounds d v).getD t Go.undef = if d = t then v else vs.getD t Go.undef := by
  simp only [Array.getD_eq_getD_getElem?, Array.getElem?_setIfInBounds]
  by_cases h : d = t
  · subst h; simp [hd]
  · simp [h]

section upd
variable {w0 : Base} {F0 : Nat → Prop} {n : Nat} {s : StL} {a : Act} {w : World} {φ : Nat → Value} {fp : Nat → Nat → Prop}

theorem SimX.put (h : SimX w0 F0 n s a w φ fp) {d : Nat} (hd : d < n) {p : PV} {v : Value} (hp : PVRep w φ (Stb w0 w fp) p v) : SimX w0 F0 n ⟨(d, p) :: s.T, s.M⟩ (a.put (some d) v) w φ fp := by
  refine ⟨h.res, h.disj, h.old, fun t => ?_, h.evo, by simp [Act.put, h.size], h.dfr, h.fix⟩
  have hs : d < a.tmps.size := by rw [h.size]; exact hd
  simp only [Act.put, getT, getD_set hs]
  by_cases e : d = t
  · rw [if_pos e, if_pos e]; exact hp
  · rw [if_neg e, if_neg e]; exact h.tmp t

/-- What a new block, or a write to a block of our own, leaves of what stays. -/
theorem Stb.of_size {w' : World} {fp' : Nat → Nat → Prop} (hsz : w.heap.size ≤ w'.heap.size) (hfp : ∀ m g, g < w.heap.size → fp' m g → ∃ m', fp m' g) {k : Kind} {g : Nat} (h : Stb w0 w fp k g) : Stb w0 w' fp' k g :=
  ⟨Nat.lt_of_lt_of_le h.1 hsz, fun m hm => by obtain ⟨m', hm'⟩ := hfp m g h.1 hm; exact h.2.1 m' hm', h.2.2⟩

end upd
end Go.PS
