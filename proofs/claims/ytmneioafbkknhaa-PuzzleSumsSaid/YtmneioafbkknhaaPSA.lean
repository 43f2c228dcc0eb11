import Derived.Maps.RangeRun
import Derived.MapKept
import Derived.WalkKit
import Derived.ChangeKeysEq
import Derived.Deep.WholeRow
import Derived.Maps.AppendAt
import Derived.Lib.SliceRun
import Derived.Laws.MakeOwn
import Derived.Laws.CopyOwn
set_option linter.unusedVariables false
set_option linter.unusedSimpArgs false
/- PS1: trees, values with names, and how a world represents them. No program in sight. -/
namespace Go.PS
open Go

/-- What is known of a slice's capacity and of whether it is nil. -/
inductive SF where | any | tight | nn
  deriving DecidableEq

/-- Data without names: what never changes while it is looked at. -/
inductive TL where
  | v (x : Value)
  | sl (t : SF) (sz : Nat) (xs : List (List TL))
  | rp (cs : List TL) (off : Nat)
  | clo (f : Nat) (caps : List TL)
  | agg (cs : List TL)
  | tup (cs : List TL)

/-- A world represents a tree by a value; all memory that it reads lies in S. -/
inductive TRep (w : World) (S : Nat → Prop) : TL → Value → Prop
  | v (x : Value) : TRep w S (.v x) x
  | sl {t : SF} {sz : Nat} {xs : List (List TL)} {a : Option Addr} {cap : Nat} (g : Nat → Nat → Value)
      (hcap : xs.length ≤ cap) (ht : t = .tight → cap = xs.length) (hnn : t = .nn → a ≠ none) (hnil : a = none → cap = 0) (hbd : xs.length ≤ 140737488355328)
      (ha : xs = [] ∨ ∃ b o, a = some ⟨b, o, none⟩ ∧ S b ∧ ∀ i j, i < xs.length → j < sz → w.cell? ⟨b, o + (i * sz + j), none⟩ = some (g i j))
      (hlen : ∀ e ∈ xs, e.length = sz)
      (hrep : ∀ (i j : Nat) (e : List TL) (x : TL), xs[i]? = some e → e[j]? = some x → TRep w S x (g i j)) :
      TRep w S (.sl t sz xs) (.slice a xs.length cap)
  | rp {cs : List TL} {off b o : Nat} (g : Nat → Value) (hb : S b)
      (hc : ∀ j, j < cs.length → w.cell? ⟨b, o + j, none⟩ = some (g j))
      (hrep : ∀ (j : Nat) (x : TL), cs[j]? = some x → TRep w S x (g j)) :
      TRep w S (.rp cs off) (.pointer (some ⟨b, o + off, none⟩))
  | clo {f : Nat} {caps : List TL} (vs : Array Value) (hs : vs.size = caps.length)
      (hrep : ∀ (j : Nat) (x : TL), caps[j]? = some x → TRep w S x (vs.getD j undef)) :
      TRep w S (.clo f caps) (.func (.func f) #[] vs)
  | agg {cs : List TL} (vs : Array Value) (hs : vs.size = cs.length)
      (hrep : ∀ (j : Nat) (x : TL), cs[j]? = some x → TRep w S x (vs.getD j undef)) :
      TRep w S (.agg cs) (.agg vs)
  | tup {cs : List TL} (vs : Array Value) (hs : vs.size = cs.length)
      (hrep : ∀ (j : Nat) (x : TL), cs[j]? = some x → TRep w S x (vs.getD j undef)) :
      TRep w S (.tup cs) (.tuple vs)

theorem TRep.mono {w w' : World} {S S' : Nat → Prop} (hc : ∀ g, S g → w'.heap[g]? = w.heap[g]?) (hS : ∀ g, S g → S' g) {x : TL} {v : Value} (h : TRep w S x v) : TRep w' S' x v := by
  induction h with
  | v x => exact .v x
  | sl g hcap ht hnn hnil hbd ha hlen hrep ih =>
    refine .sl g hcap ht hnn hnil hbd ?_ hlen ih
    rcases ha with ha | ⟨b, o, ha, hb, hcell⟩
    · exact .inl ha
    · exact .inr ⟨b, o, ha, hS _ hb, fun i j hi hj => (World.cell?_of_block (w := w) (hc b hb)).trans (hcell i j hi hj)⟩
  | rp g hb hcell hrep ih => exact .rp g (hS _ hb) (fun j hj => (World.cell?_of_block (w := w) (hc _ hb)).trans (hcell j hj)) ih
  | clo vs hs hrep ih => exact .clo vs hs ih
  | agg vs hs hrep ih => exact .agg vs hs ih
  | tup vs hs hrep ih => exact .tup vs hs ih

inductive Kind where | ro | fz
  deriving DecidableEq

/-- What a temporary or a cell of the call's own holds. -/
inductive PV where
  | t (k : Kind) (x : TL)
  | ptr (n off : Nat)
  | osl (n : Nat)
  | oep (n sz i off : Nat)
  | clo (f : Nat) (caps : List PV)
  | agg (cs : List PV)
  | tup (cs : List PV)
  | omp (n : Nat)
  | osv (n sz lo len : Nat)
  | undef

/-- Memory of the call's own, by name. -/
inductive Res where
  | dead
  | blk (ty : Nat) (cs : List PV)
  | row (ty sz : Nat) (k : Kind) (xs : List (List TL))
  | tab (k : Kind) (es : List (Value × TL))
  | iter (mn n : Nat) (seen : List Nat)
  | junk

mutual
def PV.men (m : Nat) : PV → Bool
  | .t _ _ => false
  | .ptr n _ => n == m
  | .osl n => n == m
  | .oep n _ _ _ => n == m
  | .omp n => n == m
  | .osv n _ _ _ => n == m
  | .clo _ caps => PV.menL m caps
  | .agg cs => PV.menL m cs
  | .tup cs => PV.menL m cs
  | .undef => false
def PV.menL (m : Nat) : List PV → Bool
  | [] => false
  | x :: l => PV.men m x || PV.menL m l
end

theorem PV.menL_get {m : Nat} : ∀ {l : List PV} {j : Nat} {x : PV}, l[j]? = some x → PV.menL m l = false → x.men m = false
  | [], j, x, h, _ => by simp at h
  | y :: l, 0, x, h, hm => by
    simp [PV.menL] at h hm
    subst h
    exact hm.1
  | y :: l, j + 1, x, h, hm => by
    simp only [PV.menL, Bool.or_eq_false_iff] at hm
    exact PV.menL_get (by simpa using h) hm.2

def Res.men (m : Nat) : Res → Bool
  | .dead => false
  | .blk _ cs => PV.menL m cs
  | .iter mn _ _ => mn == m
  | _ => false

inductive PVRep (w : World) (φ : Nat → Value) (St : Kind → Nat → Prop) : PV → Value → Prop
  | t {k : Kind} {x : TL} {v : Value} (h : TRep w (St k) x v) : PVRep w φ St (.t k x) v
  | ptr {n off g : Nat} (h : φ n = .pointer (some ⟨g, 0, none⟩)) : PVRep w φ St (.ptr n off) (.pointer (some ⟨g, off, none⟩))
  | osl {n len cap : Nat} {ao : Option Addr} (h : φ n = .slice ao len cap) : PVRep w φ St (.osl n) (.slice ao len cap)
  | oep {n sz i off g len cap : Nat} (h : φ n = .slice (some ⟨g, 0, none⟩) len cap) : PVRep w φ St (.oep n sz i off) (.pointer (some ⟨g, i * sz + off, none⟩))
  | omp {n : Nat} {r : Option Nat} (h : φ n = .map r) : PVRep w φ St (.omp n) (.map r)
  | osv {n sz lo len g l c cap : Nat} (h : φ n = .slice (some ⟨g, 0, none⟩) l c) (hc : len ≤ cap) : PVRep w φ St (.osv n sz lo len) (.slice (some ⟨g, lo * sz, none⟩) len cap)
  | clo {f : Nat} {caps : List PV} (vs : Array Value) (hs : vs.size = caps.length)
      (hrep : ∀ (j : Nat) (x : PV), caps[j]? = some x → PVRep w φ St x (vs.getD j Go.undef)) :
      PVRep w φ St (.clo f caps) (.func (.func f) #[] vs)
  | agg {cs : List PV} (vs : Array Value) (hs : vs.size = cs.length)
      (hrep : ∀ (j : Nat) (x : PV), cs[j]? = some x → PVRep w φ St x (vs.getD j Go.undef)) :
      PVRep w φ St (.agg cs) (.agg vs)
  | tup {cs : List PV} (vs : Array Value) (hs : vs.size = cs.length)
      (hrep : ∀ (j : Nat) (x : PV), cs[j]? = some x → PVRep w φ St x (vs.getD j Go.undef)) :
      PVRep w φ St (.tup cs) (.tuple vs)
  | undef (v : Value) : PVRep w φ St .undef v

theorem PVRep.mono {w w' : World} {φ : Nat → Value} {St St' : Kind → Nat → Prop} (hc : ∀ k g, St k g → w'.heap[g]? = w.heap[g]?) (hS : ∀ k g, St k g → St' k g) {x : PV} {v : Value} (h : PVRep w φ St x v) : PVRep w' φ St' x v := by
  induction h with
  | t h => exact .t (h.mono (hc _) (hS _))
  | ptr h => exact .ptr h
  | osl h => exact .osl h
  | oep h => exact .oep h
  | omp h => exact .omp h
  | osv h hc => exact .osv h hc
  | clo vs hs hrep ih => exact .clo vs hs ih
  | agg vs hs hrep ih => exact .agg vs hs ih
  | tup vs hs hrep ih => exact .tup vs hs ih
  | undef v => exact .undef v

theorem PVRep.rename {w : World} {φ φ' : Nat → Value} {St : Kind → Nat → Prop} {x : PV} {v : Value} (h : PVRep w φ St x v) : (∀ m, x.men m = true → φ' m = φ m) → PVRep w φ' St x v := by
  induction h with
  | t h => exact fun _ => .t h
  | ptr h => exact fun hm => .ptr ((hm _ (by simp [PV.men])).trans h)
  | osl h => exact fun hm => .osl ((hm _ (by simp [PV.men])).trans h)
  | oep h => exact fun hm => .oep ((hm _ (by simp [PV.men])).trans h)
  | omp h => exact fun hm => .omp ((hm _ (by simp [PV.men])).trans h)
  | osv h hc => exact fun hm => .osv ((hm _ (by simp [PV.men])).trans h) hc
  | clo vs hs hrep ih =>
    intro hm
    refine .clo vs hs fun j x hx => ih j x hx fun m hxm => hm m ?_
    cases hb : PV.menL m _ with
    | true => simpa [PV.men] using hb
    | false => rw [PV.menL_get hx hb] at hxm; cases hxm
  | agg vs hs hrep ih =>
    intro hm
    refine .agg vs hs fun j x hx => ih j x hx fun m hxm => hm m ?_
    cases hb : PV.menL m _ with
    | true => simpa [PV.men] using hb
    | false => rw [PV.menL_get hx hb] at hxm; cases hxm
  | tup vs hs hrep ih =>
    intro hm
    refine .tup vs hs fun j x hx => ih j x hx fun m hxm => hm m ?_
    cases hb : PV.menL m _ with
    | true => simpa [PV.men] using hb
    | false => rw [PV.menL_get hx hb] at hxm; cases hxm
  | undef v => exact fun _ => .undef v

/-- A map's entries. -/
def EntR (w : World) (S : Nat → Prop) : Nat → List (Value × TL) → List MapEntry → Prop
  | _, [], [] => True
  | i, p :: es, e :: l => e.key = p.1 ∧ e.born = i ∧ TRep w S p.2 e.val ∧ EntR w S (i + 1) es l
  | _, _, _ => False
theorem EntR.mono {w w' : World} {S S' : Nat → Prop} (hc : ∀ g, S g → w'.heap[g]? = w.heap[g]?) (hS : ∀ g, S g → S' g) : ∀ {i : Nat} {es : List (Value × TL)} {l : List MapEntry}, EntR w S i es l → EntR w' S' i es l
  | _, [], [], h => h
  | i, p :: es, e :: l, h => ⟨h.1, h.2.1, h.2.2.1.mono hc hS, EntR.mono hc hS h.2.2.2⟩
  | _, [], _ :: _, h => h.elim
  | _, _ :: _, [], h => h.elim

/-- A name's memory, in block F. -/
def ResRep (w : World) (φ : Nat → Value) (St : Kind → Nat → Prop) (r : Res) (v : Value) (F : Nat → Prop) : Prop :=
  match r with
  | .dead => ∀ g, ¬ F g
  | .blk ty cs => ∃ g vs, v = .pointer (some ⟨g, 0, none⟩) ∧ (∀ h, F h ↔ h = g) ∧ w.heap[g]? = some (.cells vs ty (0, 0)) ∧ vs.size = cs.length ∧
      ∀ (j : Nat) (x : PV), cs[j]? = some x → PVRep w φ St x (vs.getD j Go.undef)
  | .row ty sz k xs => ∃ cells : List Value, ((w.ownsRow 0 ty sz v xs.length cells ∧ ∀ h, F h ↔ v.ownBlock = some h) ∨ (xs = [] ∧ (∃ ao, v = .slice ao 0 0) ∧ ∀ h, ¬ F h)) ∧ xs.length ≤ 140737488355328 ∧ (∀ e ∈ xs, e.length = sz) ∧
      ∀ (i j : Nat) (e : List TL) (x : TL), xs[i]? = some e → e[j]? = some x → TRep w (St k) x (cells.getD (i * sz + j) Go.undef)
  | .tab k es => ∃ r ents, v = .map (some r) ∧ (∀ h, F h ↔ h = r) ∧ w.heap[r]? = some (.map ents es.length) ∧ EntR w (St k) 0 es ents.toList
  | .iter mn n seen => ∃ g r seenA, v = .pointer (some ⟨g, 0, none⟩) ∧ (∀ h, F h ↔ h = g) ∧ φ mn = .map (some r) ∧ w.heap[g]? = some (.mapIter (some r) n seenA n) ∧ seenA.toList.reverse = seen ∧ ∀ i ∈ seen, i < n
  | .junk => True

/-- Below block w0.w.heap.size nothing has turned but in F0. -/
structure Evo (F0 : Nat → Prop) (w0 w : World) : Prop where
  os : w.os = w0.os
  tape : w.tape = w0.tape
  output : w.output = w0.output
  size : w0.heap.size ≤ w.heap.size
  block : ∀ g, g < w0.heap.size → ¬ F0 g → w.heap[g]? = w0.heap[g]?

theorem Evo.refl (F0 : Nat → Prop) (w : World) : Evo F0 w w := ⟨rfl, rfl, rfl, Nat.le_refl _, fun _ _ _ => rfl⟩

/-- Where a call began: the world, and what its arguments may read. -/
structure Base where
  w : World
  S : Nat → Prop
  F : Nat → Prop
  fix : Nat → Value
abbrev Base.of (w : World) (S : Nat → Prop) : Base := ⟨w, S, fun _ => False, fun _ => Go.undef⟩

/-- What stays as it is: not of the call's own; of kind fz: made by this call. -/
def Stb (w0 : Base) (w : World) (fp : Nat → Nat → Prop) (k : Kind) (g : Nat) : Prop :=
  g < w.heap.size ∧ (∀ m, ¬ fp m g) ∧ ((w0.w.heap.size ≤ g ∨ w0.F g) ∨ (k = .ro ∧ w0.S g))

theorem Stb.inv {w w' : World} {S : Nat → Prop} {fp : Nat → Nat → Prop} {k : Kind} {g : Nat} (h : Stb (Base.of w S) w' fp k g) : w.heap.size ≤ g ∨ (k = .ro ∧ S g) := h.2.2.imp (fun h => h.resolve_right fun h => h) id

def getT : List (Nat × PV) → Nat → PV
  | [], _ => .undef
  | (k, p) :: l, t => if k = t then p else getT l t

def getM : List (Nat × Res) → Nat → Res
  | [], _ => .dead
  | (k, r) :: l, n => if k = n then r else getM l n

structure StL where
  T : List (Nat × PV)
  M : List (Nat × Res)

structure SimX (w0 : Base) (F0 : Nat → Prop) (n : Nat) (s : StL) (a : Act) (w : World) (φ : Nat → Value) (fp : Nat → Nat → Prop) : Prop where
  res : ∀ m, ResRep w φ (Stb w0 w fp) (getM s.M m) (φ m) (fp m)
  disj : ∀ m m' g, fp m g → fp m' g → m = m'
  old : ∀ m g, fp m g → g < w.heap.size ∧ (F0 g ∨ w0.w.heap.size ≤ g)
  tmp : ∀ t, PVRep w φ (Stb w0 w fp) (getT s.T t) (a.tmps.getD t Go.undef)
  evo : Evo F0 w0.w w
  size : a.tmps.size = n
  dfr : a.defers = [] ∧ (∀ g, F0 g → w0.F g)
  fix : ∀ m, 1000000 ≤ m → φ m = w0.fix m

def Sim (w0 : Base) (F0 : Nat → Prop) (n : Nat) (s : StL) (a : Act) (w : World) : Prop := ∃ φ fp, SimX w0 F0 n s a w φ fp

theorem getD_set {vs : Array Value} {d t : Nat} {v : Value} (hd : d < vs.size) : (vs.setIfInBounds d v).getD t Go.undef = if d = t then v else vs.getD t Go.undef := by
  simp only [Array.getD_eq_getD_getElem?, Array.getElem?_setIfInBounds]
  by_cases h : d = t
  · subst h; simp [hd]
  · simp [h]

section upd
variable {w0 : Base} {F0 : Nat → Prop} {n : Nat} {s : StL} {a : Act} {w : World} {φ : Nat → Value} {fp : Nat → Nat → Prop}

theorem SimX.put (h : SimX w0 F0 n s a w φ fp) {d : Nat} (hd : d < n) {p : PV} {v : Value} (hp : PVRep w φ (Stb w0 w fp) p v) : SimX w0 F0 n ⟨(d, p) :: s.T, s.M⟩ (a.put (some d) v) w φ fp := by
  refine ⟨h.res, h.disj, h.old, fun t => ?_, h.evo, by simp [Act.put, h.size], h.dfr, h.fix⟩
  have hs : d < a.tmps.size := by rw [h.size]; exact hd
  simp only [Act.put, getT, getD_set hs]
  by_cases e : d = t
  · rw [if_pos e, if_pos e]; exact hp
  · rw [if_neg e, if_neg e]; exact h.tmp t

/-- What a new block, or a write to a block of our own, leaves of what stays. -/
theorem Stb.of_size {w' : World} {fp' : Nat → Nat → Prop} (hsz : w.heap.size ≤ w'.heap.size) (hfp : ∀ m g, g < w.heap.size → fp' m g → ∃ m', fp m' g) {k : Kind} {g : Nat} (h : Stb w0 w fp k g) : Stb w0 w' fp' k g :=
  ⟨Nat.lt_of_lt_of_le h.1 hsz, fun m hm => by obtain ⟨m', hm'⟩ := hfp m g h.1 hm; exact h.2.1 m' hm', h.2.2⟩

end upd
end Go.PS
/- PS2: what a step does to the relation between a state and a world: a new block, a write, an append, forgetting. -/
namespace Go.PS
open Go Go.RowKit

theorem ResRep.keep {w w' : World} {φ : Nat → Value} {St St' : Kind → Nat → Prop} {r : Res} {v : Value} {F : Nat → Prop} (hF : ∀ g, F g → w'.heap[g]? = w.heap[g]?)
    (hc : ∀ k g, St k g → w'.heap[g]? = w.heap[g]?) (hS : ∀ k g, St k g → St' k g) (h : ResRep w φ St r v F) : ResRep w' φ St' r v F := by
  cases r with
  | dead => exact h
  | blk ty cs =>
    obtain ⟨g, vs, hv, hg, hh, hs, hr⟩ := h
    exact ⟨g, vs, hv, hg, (hF g ((hg g).2 rfl)).trans hh, hs, fun j x hx => (hr j x hx).mono hc hS⟩
  | row ty sz k xs =>
    obtain ⟨cells, ho, hb, hl, hr⟩ := h
    refine ⟨cells, ?_, hb, hl, fun i j e x he hx => (hr i j e x he hx).mono (hc _) (hS _)⟩
    rcases ho with ⟨ho, hg⟩ | ho
    · refine .inl ⟨⟨ho.1, ?_⟩, hg⟩
      rcases ho.2 with h0 | ⟨g, cap, cur, hv, hb', hh, rest⟩
      · exact .inl h0
      · refine .inr ⟨g, cap, cur, hv, hb', ?_, rest⟩
        rw [hF g ((hg g).2 (by rw [hv]; rfl))]
        exact hh
    · exact .inr ho
  | tab k es =>
    obtain ⟨r, ents, hv, hg, hh, he⟩ := h
    exact ⟨r, ents, hv, hg, (hF r ((hg r).2 rfl)).trans hh, he.mono (hc _) (hS _)⟩
  | iter mn n seen =>
    obtain ⟨g, r, sa, hv, hg, hm, hh, hs⟩ := h
    exact ⟨g, r, sa, hv, hg, hm, (hF g ((hg g).2 rfl)).trans hh, hs⟩
  | junk => trivial

theorem ResRep.rename {w : World} {φ φ' : Nat → Value} {St : Kind → Nat → Prop} {r : Res} {v : Value} {F : Nat → Prop} (hm : ∀ m, r.men m = true → φ' m = φ m) (h : ResRep w φ St r v F) : ResRep w φ' St r v F := by
  cases r with
  | dead => exact h
  | blk ty cs =>
    obtain ⟨g, vs, hv, hg, hh, hs, hr⟩ := h
    refine ⟨g, vs, hv, hg, hh, hs, fun j x hx => (hr j x hx).rename fun m hxm => hm m ?_⟩
    cases hb : PV.menL m cs with
    | true => simpa [Res.men] using hb
    | false => rw [PV.menL_get hx hb] at hxm; cases hxm
  | row ty sz k xs => exact h
  | tab k es => exact h
  | iter mn n seen =>
    obtain ⟨g, r, sa, hv, hg, hr, hh, hs⟩ := h
    exact ⟨g, r, sa, hv, hg, (hm mn (by simp [Res.men])).trans hr, hh, hs⟩
  | junk => trivial

theorem getT_men {m : Nat} : ∀ {T : List (Nat × PV)}, T.all (fun p => !p.2.men m) = true → ∀ t, (getT T t).men m = false
  | [], _, t => rfl
  | (k, p) :: T, h, t => by
    simp only [List.all_cons, Bool.and_eq_true, Bool.not_eq_true'] at h
    simp only [getT]
    by_cases e : k = t
    · rw [if_pos e]; exact h.1
    · rw [if_neg e]; exact getT_men (by simpa using h.2) t

theorem getM_men {m : Nat} : ∀ {M : List (Nat × Res)}, M.all (fun p => !p.2.men m) = true → ∀ t, (getM M t).men m = false
  | [], _, t => rfl
  | (k, p) :: M, h, t => by
    simp only [List.all_cons, Bool.and_eq_true, Bool.not_eq_true'] at h
    simp only [getM]
    by_cases e : k = t
    · rw [if_pos e]; exact h.1
    · rw [if_neg e]; exact getM_men (by simpa using h.2) t

def Res.isDead : Res → Bool
  | .dead => true
  | _ => false

theorem Res.eq_dead {r : Res} (h : r.isDead = true) : r = .dead := by cases r <;> simp [Res.isDead] at h ⊢

/-- The name d is nobody's. -/
def StL.free (s : StL) (d : Nat) : Bool := s.T.all (fun p => !p.2.men d) && s.M.all (fun p => !p.2.men d) && ((getM s.M d).isDead && decide (d < 1000000))

section upd
variable {w0 : Base} {F0 : Nat → Prop} {n : Nat} {s : StL} {a : Act} {w : World} {φ : Nat → Value} {fp : Nat → Nat → Prop}

/-- Nothing of what the state speaks of has turned. -/
theorem SimX.same (h : SimX w0 F0 n s a w φ fp) {w' : World} (hh : w'.heap = w.heap) (ho : w'.os = w.os) (ht : w'.tape = w.tape) (hout : w'.output = w.output) : SimX w0 F0 n s a w' φ fp := by
  have hS : ∀ k g, Stb w0 w fp k g → Stb w0 w' fp k g := fun k g hg => ⟨by rw [hh]; exact hg.1, hg.2⟩
  refine ⟨fun m => (h.res m).keep (fun g _ => by rw [hh]) (fun k g _ => by rw [hh]) hS, h.disj, fun m g hm => by rw [hh]; exact h.old m g hm, fun t => (h.tmp t).mono (fun k g _ => by rw [hh]) hS, ?_, h.size, h.dfr, h.fix⟩
  exact ⟨ho.trans h.evo.os, ht.trans h.evo.tape, hout.trans h.evo.output, by rw [hh]; exact h.evo.size, fun g hg hF => by rw [hh]; exact h.evo.block g hg hF⟩

/-- Temporaries may be forgotten. -/
theorem SimX.weakT (h : SimX w0 F0 n s a w φ fp) {T : List (Nat × PV)} (hT : ∀ t, getT T t = getT s.T t ∨ getT T t = .undef) : SimX w0 F0 n ⟨T, s.M⟩ a w φ fp :=
  ⟨h.res, h.disj, h.old, fun t => by
    rcases hT t with e | e
    · show PVRep _ _ _ (getT T t) _
      rw [e]; exact h.tmp t
    · show PVRep _ _ _ (getT T t) _
      rw [e]; exact .undef _, h.evo, h.size, h.dfr, h.fix⟩

/-- Names may be given up. -/
theorem SimX.weakM (h : SimX w0 F0 n s a w φ fp) {M : List (Nat × Res)} (hM : ∀ m, getM M m = getM s.M m ∨ getM M m = .dead) : ∃ fp', SimX w0 F0 n ⟨s.T, M⟩ a w φ fp' := by
  refine ⟨fun m g => fp m g ∧ getM M m ≠ .dead, ?_⟩
  have hS : ∀ k g, Stb w0 w fp k g → Stb w0 w (fun m g => fp m g ∧ getM M m ≠ .dead) k g := fun k g hg => ⟨hg.1, fun m hm => hg.2.1 m hm.1, hg.2.2⟩
  refine ⟨fun m => ?_, fun m m' g h1 h2 => h.disj m m' g h1.1 h2.1, fun m g hm => h.old m g hm.1, fun t => (h.tmp t).mono (fun k g _ => rfl) hS, h.evo, h.size, h.dfr, h.fix⟩
  show ResRep _ _ _ (getM M m) _ _
  by_cases hd : getM M m = .dead
  · rw [hd]
    intro g hg
    exact hg.2 rfl
  · have e := (hM m).resolve_right hd
    have hF : (fun g => fp m g ∧ getM M m ≠ .dead) = fp m := by
      funext g; simp [hd]
    rw [hF, e]
    exact (h.res m).keep (fun g _ => rfl) (fun k g _ => rfl) hS

/-- A new block under a free name. -/
theorem SimX.new (h : SimX w0 F0 n s a w φ fp) {d : Nat} (hd : s.free d = true) {o : Obj} {r : Res} {v : Value}
    (hr : ∀ φ' fp', (∀ m, m ≠ d → φ' m = φ m) → φ' d = v → (∀ k g, Stb w0 w fp k g → Stb w0 (w.alloc o) fp' k g) → (∀ k g, Stb w0 w fp k g → (w.alloc o).heap[g]? = w.heap[g]?) → ResRep (w.alloc o) φ' (Stb w0 (w.alloc o) fp') r v (fun g => g = w.heap.size)) :
    ∃ φ' fp', SimX w0 F0 n ⟨s.T, (d, r) :: s.M⟩ a (w.alloc o) φ' fp' ∧ (∀ m, m ≠ d → φ' m = φ m) ∧ φ' d = v := by
  simp only [StL.free, Bool.and_eq_true, decide_eq_true_eq] at hd
  obtain ⟨⟨hdT, hdM⟩, hdd, hd6⟩ := hd
  have hdead := Res.eq_dead hdd
  let φ' : Nat → Value := fun m => if m = d then v else φ m
  let fp' : Nat → Nat → Prop := fun m g => if m = d then g = w.heap.size else fp m g
  have hne : ∀ m, m ≠ d → φ' m = φ m := fun m hm => by simp [φ', hm]
  have hfd : ∀ g, ¬ fp d g := by
    have := h.res d
    rw [hdead] at this
    exact this
  have hold : ∀ g, g < w.heap.size → (w.alloc o).heap[g]? = w.heap[g]? := fun g hg => Below.heap_alloc w o g hg
  have hsz : (w.alloc o).heap.size = w.heap.size + 1 := by simp
  have hS : ∀ k g, Stb w0 w fp k g → Stb w0 (w.alloc o) fp' k g := by
    intro k g hg
    refine ⟨by rw [hsz]; exact Nat.lt_succ_of_lt hg.1, fun m hm => ?_, hg.2.2⟩
    simp only [fp'] at hm
    by_cases e : m = d
    · rw [if_pos e] at hm; have := hg.1; omega
    · rw [if_neg e] at hm; exact hg.2.1 m hm
  have hSc : ∀ k g, Stb w0 w fp k g → (w.alloc o).heap[g]? = w.heap[g]? := fun k g hg => hold g hg.1
  refine ⟨φ', fp', ⟨fun m => ?_, fun m m' g h1 h2 => ?_, fun m g hm => ?_, fun t => ?_, ?_, h.size, h.dfr, fun m hm => (hne m (by omega)).trans (h.fix m hm)⟩, hne, by simp [φ']⟩
  · show ResRep _ _ _ (getM ((d, r) :: s.M) m) _ _
    simp only [getM]
    by_cases e : d = m
    · subst e
      rw [if_pos rfl]
      have e1 : fp' d = fun g => g = w.heap.size := by funext g; simp [fp']
      have e2 : φ' d = v := by simp [φ']
      rw [e1, e2]
      exact hr φ' fp' hne e2 hS hSc
    · rw [if_neg e]
      have e1 : fp' m = fp m := by funext g; simp [fp', Ne.symm e]
      rw [e1, hne m (Ne.symm e)]
      refine ((h.res m).keep (fun g hg => hold g (h.old m g hg).1) hSc hS).rename fun m' hm' => hne m' ?_
      rintro rfl
      have := getM_men hdM m
      rw [this] at hm'; cases hm'
  · simp only [fp'] at h1 h2
    by_cases e1 : m = d <;> by_cases e2 : m' = d
    · rw [e1, e2]
    · rw [if_pos e1] at h1; rw [if_neg e2] at h2
      have := (h.old m' g h2).1; omega
    · rw [if_neg e1] at h1; rw [if_pos e2] at h2
      have := (h.old m g h1).1; omega
    · rw [if_neg e1] at h1; rw [if_neg e2] at h2
      exact h.disj m m' g h1 h2
  · simp only [fp'] at hm
    rw [hsz]
    by_cases e1 : m = d
    · rw [if_pos e1] at hm
      have := h.evo.size
      exact ⟨by omega, .inr (by omega)⟩
    · rw [if_neg e1] at hm
      have := h.old m g hm
      exact ⟨by omega, this.2⟩
  · refine ((h.tmp t).mono hSc hS).rename fun m' hm' => hne m' ?_
    rintro rfl
    have := getT_men hdT t
    rw [this] at hm'; cases hm'
  · exact ⟨h.evo.os, h.evo.tape, h.evo.output, by rw [hsz]; have := h.evo.size; omega, fun g hg hF => (hold g (Nat.lt_of_lt_of_le hg h.evo.size)).trans (h.evo.block g hg hF)⟩

/-- A write to the block of a name. -/
theorem SimX.write (h : SimX w0 F0 n s a w φ fp) {m0 : Nat} {r : Res} {w' : World} (ho : w'.os = w.os) (ht : w'.tape = w.tape) (hout : w'.output = w.output) (hsz : w'.heap.size = w.heap.size)
    (hother : ∀ g, ¬ fp m0 g → w'.heap[g]? = w.heap[g]?)
    (hr : ∀ (hS : ∀ k g, Stb w0 w fp k g → Stb w0 w' fp k g), (∀ k g, Stb w0 w fp k g → w'.heap[g]? = w.heap[g]?) → ResRep w' φ (Stb w0 w' fp) r (φ m0) (fp m0)) :
    SimX w0 F0 n ⟨s.T, (m0, r) :: s.M⟩ a w' φ fp := by
  have hS : ∀ k g, Stb w0 w fp k g → Stb w0 w' fp k g := fun k g hg => ⟨by rw [hsz]; exact hg.1, hg.2⟩
  have hSc : ∀ k g, Stb w0 w fp k g → w'.heap[g]? = w.heap[g]? := fun k g hg => hother g (hg.2.1 m0)
  refine ⟨fun m => ?_, h.disj, fun m g hm => by rw [hsz]; exact h.old m g hm, fun t => (h.tmp t).mono hSc hS, ?_, h.size, h.dfr, h.fix⟩
  · show ResRep _ _ _ (getM ((m0, r) :: s.M) m) _ _
    simp only [getM]
    by_cases e : m0 = m
    · subst e
      rw [if_pos rfl]
      exact hr hS hSc
    · rw [if_neg e]
      exact (h.res m).keep (fun g hg => hother g fun hg' => e (h.disj m0 m g hg' hg)) hSc hS
  · refine ⟨ho.trans h.evo.os, ht.trans h.evo.tape, hout.trans h.evo.output, by rw [hsz]; exact h.evo.size, fun g hg hF => ?_⟩
    refine (hother g fun hm => ?_).trans (h.evo.block g hg hF)
    rcases (h.old m0 g hm).2 with h1 | h1
    · exact hF h1
    · omega

end upd
end Go.PS
/- PS3: the operations that change nothing: what they answer in a state, and that the machine answers so. -/
namespace Go.PS
open Go Go.RowKit

def szT (P : Program) (t : Nat) : Option Nat := (P.info? t).map (·.size)
def TypeDesc.isAgg : TypeDesc → Bool
  | .struct _ | .array _ _ => true
  | _ => false
def aggT (P : Program) (t : Nat) : Option Bool := (P.underlying t).map TypeDesc.isAgg
def fldT (P : Program) (t f : Nat) : Option (Nat × Nat) :=
  match P.underlying t with
  | some (.struct fs) => match fs[f]? with
    | some fl => (szT P fl.type).map fun n => (fl.offset, n)
    | none => none
  | _ => none
def fldA (P : Program) (t f : Nat) : Option Bool :=
  match P.underlying t with
  | some (.struct fs) => match fs[f]? with
    | some fl => aggT P fl.type
    | none => none
  | _ => none
def slT (P : Program) (t : Nat) : Option Nat :=
  match P.underlying t with
  | some (.slice e) => szT P e
  | _ => none
def arT (P : Program) (t : Nat) : Option (Nat × Nat) :=
  match P.underlying t with
  | some (.array n e) => (szT P e).map fun m => (n, m)
  | _ => none
def arA (P : Program) (t : Nat) : Option Bool :=
  match P.underlying t with
  | some (.array n e) => aggT P e
  | _ => none
/-- From a whole number's type to another. -/
def cvT (P : Program) (s d : Nat) : Option IntKind :=
  match P.underlying s, P.underlying d with
  | some _, some (.int k) => some k
  | _, _ => none

theorem szT_run {P : Program} {t n : Nat} (h : szT P t = some n) (w : World) : (sizeOf t).run P w = .ok n w := by
  unfold szT at h
  obtain ⟨i, hi, rfl⟩ := Option.map_eq_some_iff.1 h
  simp [sizeOf, typeInfo, hi]

theorem aggT_run {P : Program} {t : Nat} {b : Bool} (h : aggT P t = some b) (w : World) : (isAgg t).run P w = .ok b w := by
  unfold aggT at h
  obtain ⟨d, hd, rfl⟩ := Option.map_eq_some_iff.1 h
  cases d <;> simp [isAgg, run_underlying hd, TypeDesc.isAgg]

/-- What an operand is. -/
def ev (s : StL) : Operand → PV
  | .tmp t => getT s.T t
  | .const (.agg vs) => .t .fz (.agg (vs.toList.map .v))
  | .const v => .t .fz (.v v)
  | .func f => .clo f []
  | .global _ => .undef

/-- Whole numbers, Bools, strings. -/
def sBin (op : BinOp) (x y : Value) : Option Value :=
  match x, y with
  | .int k a, .int k' b =>
    match op with
    | .shl => if 0 ≤ b then some (.int k (k.wrap (a * 2 ^ min b.toNat k.bits))) else none
    | .shr => if 0 ≤ b then some (.int k (a.fdiv (2 ^ min b.toNat k.bits))) else none
    | .add => if k = k' then some (.int k (k.wrap (a + b))) else none
    | .sub => if k = k' then some (.int k (k.wrap (a - b))) else none
    | .mul => if k = k' then some (.int k (k.wrap (a * b))) else none
    | .quo => if k = k' ∧ b ≠ 0 then some (.int k (k.wrap (a.tdiv b))) else none
    | .rem => if k = k' ∧ b ≠ 0 then some (.int k (a.tmod b)) else none
    | .and => if k = k' then some (.int k (bits .and k a b)) else none
    | .or => if k = k' then some (.int k (bits .or k a b)) else none
    | .xor => if k = k' then some (.int k (bits .xor k a b)) else none
    | .andNot => if k = k' then some (.int k (bits .andNot k a b)) else none
    | .eql => if k = k' then some (.bool (a == b)) else none
    | .neq => if k = k' then some (.bool (a != b)) else none
    | .lss => if k = k' then some (.bool (decide (a < b))) else none
    | .leq => if k = k' then some (.bool (decide (a ≤ b))) else none
    | .gtr => if k = k' then some (.bool (decide (b < a))) else none
    | .geq => if k = k' then some (.bool (decide (b ≤ a))) else none
  | .string a, .string b =>
    match op with
    | .eql => some (.bool (a.toList == b.toList))
    | .neq => some (.bool (a.toList != b.toList))
    | _ => none
  | _, _ => none

def sUn (op : UnOp) (x : Value) : Option Value :=
  match op, x with
  | .not, .bool b => some (.bool !b)
  | .neg, .int k n => some (.int k (k.wrap (0 - n)))
  | _, _ => none


theorem sBin_run {P : Program} {op : BinOp} {t : Nat} {x y v : Value} {xo yo : Operand} (h : sBin op x y = some v) (w : World) :
    (do eqGuard op t xo yo x y; binOp op t x y : Sem Value).run P w = .ok v w := by
  unfold sBin at h
  split at h
  · rename_i k a k' b
    have hg : (eqGuard op t xo yo (.int k a) (.int k' b)).run P w = .ok () w := by
      unfold eqGuard
      cases op <;> rfl
    rw [Sem.run_bind, hg]
    cases op <;> simp only [] at h
    case shl =>
      split at h
      · rename_i hb
        cases h
        simp [binOp, Op.shift, Int.not_lt.2 hb, Result.andThen]
      · cases h
    case shr =>
      split at h
      · rename_i hb
        cases h
        simp [binOp, Op.shift, Int.not_lt.2 hb, Result.andThen]
      · cases h
    case quo =>
      split at h
      · rename_i hb
        obtain ⟨rfl, hb⟩ := hb
        cases h
        simp [binOp, Op.intDiv, hb, Result.andThen]
      · cases h
    case rem =>
      split at h
      · rename_i hb
        obtain ⟨rfl, hb⟩ := hb
        cases h
        simp [binOp, Op.intDiv, hb, Result.andThen]
      · cases h
    all_goals
      split at h
      · rename_i hb
        cases hb
        cases h
        simp [binOp, Op.intArith, Op.intBits, Op.intCmp, bits, Result.andThen]
      · cases h
  · rename_i a b
    have hg : (eqGuard op t xo yo (.string a) (.string b)).run P w = .ok () w := by
      unfold eqGuard
      cases op <;> rfl
    rw [Sem.run_bind, hg]
    cases op <;> simp only [reduceCtorEq] at h <;> cases h
    · simp [binOp, Op.stringOp, Result.andThen]
    · simp [binOp, Op.stringOp, Result.andThen, bne]
  · cases h

def isBoolT (P : Program) (t : Nat) : Bool := match P.underlying t with
  | some .bool => true
  | _ => false
/-- The same, of two Bools too. -/
def sBinT (P : Program) (op : BinOp) (t : Nat) (x y : Value) : Option Value :=
  match x, y with
  | .bool a, .bool b => if isBoolT P t = true then (match op with
    | .eql => some (.bool (a == b))
    | .neq => some (.bool (a != b))
    | _ => none) else none
  | x, y => sBin op x y
theorem sBinT_run {P : Program} {op : BinOp} {t : Nat} {x y v : Value} {xo yo : Operand} (h : sBinT P op t x y = some v) (w : World) :
    (do eqGuard op t xo yo x y; binOp op t x y : Sem Value).run P w = .ok v w := by
  unfold sBinT at h
  split at h
  · rename_i a b
    split at h
    · rename_i hb
      have hu : P.underlying t = some .bool := by
        unfold isBoolT at hb
        split at hb
        · assumption
        · cases hb
      have hg : (eqGuard op t xo yo (.bool a) (.bool b)).run P w = .ok () w := by
        unfold eqGuard
        cases op <;> rfl
      have he : (Op.equal t (.bool a) (.bool b)).run P w = .ok (a == b) w := by
        unfold Op.equal
        show (Op.equalIn Op.maxDepth t (.bool a) (.bool b)).run P w = _
        unfold Op.maxDepth Op.equalIn
        simp [underlying, hu]
      rw [Sem.run_bind, hg]
      cases op <;> simp only [reduceCtorEq] at h <;> cases h
      · simp [binOp, Result.andThen, he]
      · simp [binOp, Result.andThen, he, bne]
    · cases h
  · exact sBin_run h w

theorem sUn_run {P : Program} {op : UnOp} {x v : Value} (h : sUn op x = some v) (w : World) : (Op.unary op x).run P w = .ok v w := by
  unfold sUn at h
  split at h
  · cases h; simp [Op.unary]
  · cases h; simp [Op.unary, Op.intArith]
  · cases h

section
variable {w0 : Base} {F0 : Nat → Prop} {n : Nat} {s : StL} {a : Act} {w : World} {φ : Nat → Value} {fp : Nat → Nat → Prop}

theorem getD_mapv (vs : Array Value) (j : Nat) (x : TL) (h : (vs.toList.map TL.v)[j]? = some x) : x = .v (vs.getD j Go.undef) := by
  rw [List.getElem?_map] at h
  obtain ⟨y, hy, rfl⟩ := Option.map_eq_some_iff.1 h
  rw [Array.getElem?_toList] at hy
  simp [Array.getD_eq_getD_getElem?, hy]

theorem SimX.ev (h : SimX w0 F0 n s a w φ fp) (x : Operand) : PVRep w φ (Stb w0 w fp) (PS.ev s x) (a.eval x) := by
  cases x with
  | tmp t => exact h.tmp t
  | const v =>
    cases v
    case agg vs => exact .t (.agg vs (by simp) fun j x hx => by rw [getD_mapv vs j x hx]; exact .v _)
    all_goals exact .t (.v _)
  | func f => exact .clo #[] rfl fun j x hx => by simp at hx
  | global g => exact .undef _

end
end Go.PS
/- PS4: operations that change nothing, one by one and together. -/
namespace Go.PS
open Go Go.RowKit

/- Maps of our own. -/
open Go.MapKept (IsKey run_getObj_map run_setObj_map run_checkKey run_findKey run_keyThatStays bytes_beq)
section
def mapT (P : Program) (t : Nat) : Option (Nat × Nat) :=
  match P.underlying t with
  | some (.map k e) => some (k, e)
  | _ => none
def keyD (P : Program) (t : Nat) : Option TypeDesc := P.underlying t
def zV (P : Program) (t : Nat) : Option Value := (P.info? t).bind (·.zero)
def isKeyB : TypeDesc → Value → Bool
  | .bool, .bool _ => true
  | .int k, .int k' _ => k' == k
  | .string, .string _ => true
  | _, _ => false
theorem isKeyB_spec {d : TypeDesc} {v : Value} (h : isKeyB d v = true) : IsKey d v := by
  unfold isKeyB at h
  split at h <;> simp_all [IsKey]
theorem sameNow_true {d : TypeDesc} {a b : Value} (h : Instr.sameNow d a b = some true) : b = a := by
  unfold Instr.sameNow at h
  split at h
  · split at h
    · rename_i hk
      subst hk
      simp at h
      rw [h]
    · cases h
  · simp only [Option.some.injEq] at h
    rw [(bytes_beq _ _).1 h]
  · simp at h
    rw [h]
  · cases h
theorem zV_run {P : Program} {t : Nat} {z : Value} (h : zV P t = some z) (w : World) : (zeroValue t).run P w = .ok z w := by
  unfold zV at h
  obtain ⟨i, hi, hz⟩ := Option.bind_eq_some_iff.1 h
  simp [zeroValue, typeInfo, hi, hz]
theorem mapT_und {P : Program} {t k e : Nat} (h : mapT P t = some (k, e)) : P.underlying t = some (.map k e) := by
  unfold mapT at h
  split at h
  · rename_i hh
    cases h
    exact hh
  · cases h

def tget (d : TypeDesc) (key : Value) : List (Value × TL) → Option (Option TL)
  | [] => some none
  | p :: es => match Instr.sameNow d key p.1 with
    | some true => some (some p.2)
    | some false => tget d key es
    | none => none
def tset (d : TypeDesc) (key : Value) (x : TL) : List (Value × TL) → Option (List (Value × TL))
  | [] => some [(key, x)]
  | p :: es => match Instr.sameNow d key p.1 with
    | some true => some ((key, x) :: es)
    | some false => (tset d key x es).map (p :: ·)
    | none => none

theorem tget_find {w : World} {S : Nat → Prop} {d : TypeDesc} {key : Value} : ∀ {es : List (Value × TL)} {l : List MapEntry} {i : Nat} (j : Nat) {o : Option TL}, EntR w S i es l → tget d key es = some o →
    (o = none ∧ Instr.findNow d key l j = some none) ∨ ∃ x idx v, o = some x ∧ Instr.findNow d key l j = some (some (idx, v)) ∧ TRep w S x v
  | [], [], i, j, o, _, h => by
    cases h
    exact .inl ⟨rfl, rfl⟩
  | p :: es, e :: l, i, j, o, ⟨h1, h2, h3, h4⟩, h => by
    simp only [tget] at h
    simp only [Instr.findNow, h1]
    split at h
    · rename_i hs
      cases h
      rw [hs]
      exact .inr ⟨_, _, _, rfl, rfl, h3⟩
    · rename_i hs
      rw [hs]
      exact tget_find (j + 1) h4 h
    · cases h
  | [], _ :: _, _, _, _, h, _ => h.elim
  | _ :: _, [], _, _, _, h, _ => h.elim

theorem tset_find {w : World} {S : Nat → Prop} {d : TypeDesc} {key val : Value} {x : TL} (hx : TRep w S x val) : ∀ {es es' : List (Value × TL)} {l : List MapEntry} {i : Nat} (j : Nat), EntR w S i es l → tset d key x es = some es' →
    (Instr.findNow d key l j = some none ∧ es' = es ++ [(key, x)]) ∨
    ∃ idx e, Instr.findNow d key l j = some (some (j + idx, e.val)) ∧ l[idx]? = some e ∧ e.key = key ∧ es'.length = es.length ∧ EntR w S i es' (l.modify idx fun e => { e with key := key, val := val })
  | [], es', [], i, j, _, h => by
    cases h
    exact .inl ⟨rfl, rfl⟩
  | p :: es, es', e :: l, i, j, ⟨h1, h2, h3, h4⟩, h => by
    simp only [tset] at h
    simp only [Instr.findNow, h1]
    split at h
    · rename_i hs
      cases h
      rw [hs]
      exact .inr ⟨0, e, rfl, rfl, by rw [h1, sameNow_true hs], rfl, ⟨rfl, h2, hx, h4⟩⟩
    · rename_i hs
      rw [hs]
      obtain ⟨es2, h5, rfl⟩ := Option.map_eq_some_iff.1 h
      rcases tset_find hx (j + 1) h4 h5 with ⟨h6, rfl⟩ | ⟨idx, e2, h6, h7, h8, h9, h10⟩
      · exact .inl ⟨h6, rfl⟩
      · refine .inr ⟨idx + 1, e2, ?_, by simpa using h7, h8, by simp [h9], ?_⟩
        · rw [show j + (idx + 1) = j + 1 + idx by omega]
          exact h6
        · simp only [List.modify_succ_cons]
          exact ⟨h1, h2, h3, h10⟩
    · cases h
  | [], _, _ :: _, _, _, h, _ => h.elim
  | _ :: _, _, [], _, _, h, _ => h.elim

theorem EntR.append {w : World} {S : Nat → Prop} {p : Value × TL} {e : MapEntry} : ∀ {es : List (Value × TL)} {l : List MapEntry} {i : Nat}, EntR w S i es l → e.key = p.1 → e.born = i + es.length → TRep w S p.2 e.val → EntR w S i (es ++ [p]) (l ++ [e])
  | [], [], i, _, h1, h2, h3 => ⟨h1, h2, h3, trivial⟩
  | q :: es, f :: l, i, ⟨g1, g2, g3, g4⟩, h1, h2, h3 => ⟨g1, g2, g3, EntR.append g4 h1 (by rw [h2, List.length_cons]; omega) h3⟩
  | [], _ :: _, _, h, _, _, _ => h.elim
  | _ :: _, [], _, h, _, _, _ => h.elim
theorem EntR.length {w : World} {S : Nat → Prop} : ∀ {es : List (Value × TL)} {l : List MapEntry} {i : Nat}, EntR w S i es l → l.length = es.length
  | [], [], i, _ => rfl
  | q :: es, f :: l, i, h => by simp [EntR.length h.2.2.2]
  | [], _ :: _, _, h => h.elim
  | _ :: _, [], _, h => h.elim
theorem EntR.get {w : World} {S : Nat → Prop} : ∀ {es : List (Value × TL)} {l : List MapEntry} {i : Nat}, EntR w S i es l → ∀ (j : Nat) (e : MapEntry), l[j]? = some e → ∃ p, es[j]? = some p ∧ e.key = p.1 ∧ e.born = i + j ∧ TRep w S p.2 e.val
  | [], [], i, _, j, e, he => by simp at he
  | q :: es, f :: l, i, h, 0, e, he => by
    simp at he
    subst he
    exact ⟨q, rfl, h.1, h.2.1, h.2.2.1⟩
  | q :: es, f :: l, i, h, j + 1, e, he => by
    obtain ⟨p, h1, h2, h3, h4⟩ := EntR.get h.2.2.2 j e (by simpa using he)
    exact ⟨p, by simpa using h1, h2, by omega, h4⟩
  | [], _ :: _, _, h, _, _, _ => h.elim
  | _ :: _, [], _, h, _, _, _ => h.elim
theorem EntR.nodup {w : World} {S : Nat → Prop} {es : List (Value × TL)} {l : List MapEntry} {i : Nat} (h : EntR w S i es l) : (l.map (·.born)).Nodup := by
  rw [List.Nodup, List.pairwise_map, List.pairwise_iff_getElem]
  intro a b ha hb hab
  obtain ⟨p, _, _, h1, _⟩ := h.get a l[a] (by simp)
  obtain ⟨q, _, _, h2, _⟩ := h.get b l[b] (by simp)
  omega

/-- m[k]. -/
def lookPV (P : Program) (s : StL) (t : Nat) (x key : PV) (ok : Bool) : Option PV :=
  match mapT P t, key with
  | some (kt, et), .t _ (.v kv) => match keyD P kt, zV P et with
    | some d, some z => if isKeyB d kv = true then
        (match x with
        | .omp n => (match getM s.M n with
          | .tab k es => (match tget d kv es with
            | some (some x) => some (if ok then .tup [.t k x, .t .fz (.v (.bool true))] else .t k x)
            | some none => some (if ok then .tup [.t .fz (.v z), .t .fz (.v (.bool false))] else .t .fz (.v z))
            | none => none)
          | _ => none)
        | .t _ (.v (.map none)) => some (if ok then .tup [.t .fz (.v z), .t .fz (.v (.bool false))] else .t .fz (.v z))
        | _ => none) else none
    | _, _ => none
  | _, _ => none
def lowK : PV → Option (Kind × TL)
  | .t _ (.v y) => some (.fz, .v y)
  | .t k x => some (k, x)
  | _ => none
def jn (k k' : Kind) : Kind := match k, k' with
  | .fz, .fz => .fz
  | _, _ => .ro
/-- m[k] = v. -/
def updPV (P : Program) (s : StL) (t : Nat) (m key v : PV) : Option StL :=
  match m, key, lowK v, mapT P t with
  | .omp n, .t _ (.v kv), some (k', x), some (kt, _) => match keyD P kt, getM s.M n with
    | some d, .tab k es => if isKeyB d kv = true then (tset d kv x es).map fun es' => ⟨s.T, (n, .tab (jn k k') es') :: s.M⟩ else none
    | _, _ => none
  | _, _, _, _ => none
/-- The round's key and value. -/
def entPV (s : StL) (x : PV) : Option PV :=
  match x with
  | .ptr m 0 => match getM s.M m with
    | .iter mn n (i :: _) => match getM s.M mn with
      | .tab k es => if es.length = n then (es[i]?).map fun p => .tup [.t .fz (.v p.1), .t k p.2] else none
      | _ => none
    | _ => none
  | _ => none
end

section
variable {P : Program} {w0 : Base} {F0 : Nat → Prop} {n : Nat} {s : StL} {a : Act} {w : World} {φ : Nat → Value} {fp : Nat → Nat → Prop}

theorem lookPV_run (h : SimX w0 F0 n s a w φ fp) {t : Nat} {x key q : PV} {u kv : Value} {ok : Bool} (hx : PVRep w φ (Stb w0 w fp) x u) (hk : PVRep w φ (Stb w0 w fp) key kv) (hq : lookPV P s t x key ok = some q) :
    ∃ v, (Instr.lookup t u kv ok).run P w = .ok v w ∧ PVRep w φ (Stb w0 w fp) q v := by
  unfold lookPV at hq
  split at hq
  · rename_i kt et k0 kv' hmt
    have hund := mapT_und hmt
    split at hq
    · rename_i d z hd hz
      split at hq
      · rename_i hkey
        have hkv : kv = kv' := by
          cases hk with
          | t h => exact h.casesOn (motive := fun x v _ => x = TL.v kv' → v = kv') (fun y e => by cases e; rfl) (by intros; simp_all) (by intros; simp_all) (by intros; simp_all) (by intros; simp_all) (by intros; simp_all) rfl
        subst hkv
        have hK := isKeyB_spec hkey
        have hd' : P.underlying kt = some d := hd
        have hzr := zV_run hz w
        have fin : ∀ (b : Bool), PVRep w φ (Stb w0 w fp) (if ok then .tup [.t .fz (.v z), .t .fz (.v (.bool b))] else .t .fz (.v z)) (if ok then .tuple #[z, .bool b] else z) := by
          intro b
          cases ok
          · exact .t (.v _)
          · refine .tup _ rfl fun j y hy => ?_
            match j, hy with
            | 0, hy => simp at hy; subst hy; exact .t (.v _)
            | 1, hy => simp at hy; subst hy; exact .t (.v _)
            | j + 2, hy => simp at hy
        split at hq
        · rename_i m
          cases hx with
          | @omp _ r hφ =>
          split at hq
          · rename_i k es hM
            have hres := h.res m
            rw [hM] at hres
            obtain ⟨r', ents, hv, hF, hh, he⟩ := hres
            rw [hφ] at hv
            cases hv
            split at hq
            · rename_i y hg
              cases hq
              rcases tget_find 0 he hg with ⟨e, _⟩ | ⟨y', idx, v, e, hf, hr⟩
              · cases e
              · cases e
                refine ⟨if ok then .tuple #[v, .bool true] else v, ?_, ?_⟩
                · simp [Instr.lookup, run_underlying hund, Go.MapKept.run_getObj_map hh, run_checkKey hd' hK, run_findKey hd' hf, Result.andThen]
                · cases ok
                  · exact .t hr
                  · refine .tup _ rfl fun j y hy => ?_
                    match j, hy with
                    | 0, hy => simp at hy; subst hy; exact .t hr
                    | 1, hy => simp at hy; subst hy; exact .t (.v _)
                    | j + 2, hy => simp at hy
            · rename_i hg
              cases hq
              rcases tget_find 0 he hg with ⟨_, hf⟩ | ⟨y', idx, v, e, hf, hr⟩
              · refine ⟨if ok then .tuple #[z, .bool false] else z, ?_, fin false⟩
                simp [Instr.lookup, run_underlying hund, Go.MapKept.run_getObj_map hh, run_checkKey hd' hK, run_findKey hd' hf, hzr, Result.andThen]
              · cases e
            · cases hq
          · cases hq
        · have hu : u = .map none := by
            cases hx with
            | t h => exact h.casesOn (motive := fun x v _ => x = TL.v (.map none) → v = .map none) (fun y e => by cases e; rfl) (by intros; simp_all) (by intros; simp_all) (by intros; simp_all) (by intros; simp_all) (by intros; simp_all) rfl
          subst hu
          cases hq
          refine ⟨if ok then .tuple #[z, .bool false] else z, ?_, fin false⟩
          simp [Instr.lookup, run_underlying hund, run_checkKey hd' hK, run_findKey hd' (l := []) (a := none) rfl, hzr, Result.andThen]
        · cases hq
      · cases hq
    · cases hq
  · cases hq

theorem TRep.jn {k : Kind} {x : TL} {v : Value} (h : TRep w (Stb w0 w fp k) x v) (k' : Kind) : TRep w (Stb w0 w fp (jn k k')) x v :=
  h.mono (fun _ _ => rfl) fun g hg => by
    cases k <;> cases k' <;> first | exact hg | exact ⟨hg.1, hg.2.1, hg.2.2.imp id fun e => ⟨rfl, e.2⟩⟩
theorem EntR.jn {k : Kind} {es : List (Value × TL)} {l : List MapEntry} {i : Nat} (h : EntR w (Stb w0 w fp k) i es l) (k' : Kind) : EntR w (Stb w0 w fp (jn k k')) i es l :=
  h.mono (fun _ _ => rfl) fun g hg => by
    cases k <;> cases k' <;> first | exact hg | exact ⟨hg.1, hg.2.1, hg.2.2.imp id fun e => ⟨rfl, e.2⟩⟩
theorem jn_comm (k k' : Kind) : PS.jn k k' = PS.jn k' k := by cases k <;> cases k' <;> rfl

theorem lowK_rep {p : PV} {u : Value} {k : Kind} {x : TL} (hu : PVRep w φ (Stb w0 w fp) p u) (hl : lowK p = some (k, x)) : TRep w (Stb w0 w fp k) x u := by
  unfold lowK at hl
  split at hl
  · rename_i k0 y
    cases hl
    cases hu with
    | t h => exact h.casesOn (motive := fun x v _ => x = TL.v y → TRep w (Stb w0 w fp .fz) (.v y) v) (fun z e => by cases e; exact .v _) (by intros; simp_all) (by intros; simp_all) (by intros; simp_all) (by intros; simp_all) (by intros; simp_all) rfl
  · cases hl
    cases hu with
    | t h => exact h
  · cases hl

theorem updPV_run (h : SimX w0 F0 n s a w φ fp) {t : Nat} {m key v : PV} {um uk uv : Value} {s' : StL} (hm : PVRep w φ (Stb w0 w fp) m um) (hk : PVRep w φ (Stb w0 w fp) key uk) (hv : PVRep w φ (Stb w0 w fp) v uv) (hq : updPV P s t m key v = some s') :
    ∃ w', (Instr.mapUpdate t um uk uv).run P w = .ok () w' ∧ SimX w0 F0 n s' a w' φ fp := by
  unfold updPV at hq
  split at hq
  · rename_i m0 k0 kv k' x kt et hlow hmt
    have hund := mapT_und hmt
    have hkv : uk = kv := by
      cases hk with
      | t h => exact h.casesOn (motive := fun x v _ => x = TL.v kv → v = kv) (fun y e => by cases e; rfl) (by intros; simp_all) (by intros; simp_all) (by intros; simp_all) (by intros; simp_all) (by intros; simp_all) rfl
    subst hkv
    have hx := lowK_rep hv hlow
    split at hq
    · rename_i d k es hd hM
      split at hq
      · rename_i hkey
        have hK := isKeyB_spec hkey
        have hd' : P.underlying kt = some d := hd
        obtain ⟨es', hts, rfl⟩ := Option.map_eq_some_iff.1 hq
        cases hm with
        | @omp _ r hφ =>
        have hres := h.res m0
        rw [hM] at hres
        obtain ⟨r', ents, hv', hF, hh, he⟩ := hres
        rw [hφ] at hv'
        cases hv'
        have hx' : TRep w (Stb w0 w fp (PS.jn k k')) x uv := by
          rw [jn_comm]
          exact hx.jn k
        have he' := he.jn k'
        have hlen := he.length
        have wr : ∀ (ents' : Array MapEntry), EntR w (Stb w0 w fp (PS.jn k k')) 0 es' ents'.toList → SimX w0 F0 n ⟨s.T, (m0, .tab (PS.jn k k') es') :: s.M⟩ a { w with heap := w.heap.setIfInBounds r' (.map ents' es'.length) } φ fp := by
          intro ents' hent
          refine h.write rfl rfl rfl (by simp) (fun g hg => ?_) (fun hS hSc => ?_)
          · have : g ≠ r' := fun e => hg ((hF g).2 e)
            simp [Ne.symm this]
          · refine ⟨r', ents', hφ, hF, ?_, hent.mono (hSc _) (hS _)⟩
            have hlt : r' < w.heap.size := (Array.getElem?_eq_some_iff.1 hh).1
            simp [hlt]
        rcases tset_find hx' 0 he' hts with ⟨hf, rfl⟩ | ⟨idx, e, hf, hidx, hek, hl, hent⟩
        · refine ⟨_, ?_, wr (ents.push { key := uk, val := uv, born := es.length }) ?_⟩
          · simp [Instr.mapUpdate, run_underlying hund, Go.MapKept.run_getObj_map hh, run_checkKey hd' hK, run_findKey hd' hf, Go.MapKept.run_setObj_map _ hh, Result.andThen]
          · rw [Array.toList_push]
            exact he'.append rfl (by simp) hx'
        · have hj : ents[idx]? = some e := by simpa using hidx
          refine ⟨_, ?_, wr (ents.modify idx fun e => { e with key := uk, val := uv }) ?_⟩
          · rw [hl]
            simp [Instr.mapUpdate, run_underlying hund, Go.MapKept.run_getObj_map hh, run_checkKey hd' hK, run_findKey hd' hf, hj, hek, run_keyThatStays hK, Go.MapKept.run_setObj_map _ hh, Result.andThen]
          · rw [Array.toList_modify]
            exact hent
      · cases hq
    · cases hq
  · cases hq

theorem entPV_run (h : SimX w0 F0 n s a w φ fp) {x q : PV} {u : Value} (hx : PVRep w φ (Stb w0 w fp) x u) (hq : entPV s x = some q) : ∃ v, (Instr.entry u).run P w = .ok v w ∧ PVRep w φ (Stb w0 w fp) q v := by
  unfold entPV at hq
  split at hq
  · rename_i m
    split at hq
    · rename_i mn nn i rest hM
      split at hq
      · rename_i k es hMn
        split at hq
        · rename_i hl
          obtain ⟨p, hp, rfl⟩ := Option.map_eq_some_iff.1 hq
          cases hx with
          | @ptr _ _ g hφ =>
          have hres := h.res m
          rw [hM] at hres
          obtain ⟨g', r, sa, hv, hF, hφm, hh, hs, _⟩ := hres
          rw [hφ] at hv
          cases hv
          have hres2 := h.res mn
          rw [hMn] at hres2
          obtain ⟨r2, ents, hv2, _, hh2, he⟩ := hres2
          rw [hφm] at hv2
          cases hv2
          have hsa : ∃ sa0 : Array Nat, sa = sa0.push i := by
            have : sa.toList = rest.reverse ++ [i] := by
              have := congrArg List.reverse hs
              simpa using this
            refine ⟨rest.reverse.toArray, ?_⟩
            rw [← Array.toList_inj]
            simp [this]
          obtain ⟨sa0, rfl⟩ := hsa
          have hilt : i < ents.toList.length := by
            rw [he.length]
            exact (List.getElem?_eq_some_iff.1 hp).1
          obtain ⟨p', hp', hk', hb', hr'⟩ := he.get i ents.toList[i] (by simp)
          rw [hp] at hp'
          cases hp'
          have hbi : (ents.toList[i]).born = i := by omega
          have hrun := run_entry_at (P := P) w g r nn sa0 ents es.length ents.toList[i] (by rw [hbi, hl]; exact hh) hh2 (List.getElem_mem hilt) he.nodup
          refine ⟨_, hrun, .tup _ rfl fun j y hy => ?_⟩
          match j, hy with
          | 0, hy =>
            simp at hy
            subst hy
            rw [← hk']
            exact .t (.v _)
          | 1, hy =>
            simp at hy
            subst hy
            exact .t hr'
          | j + 2, hy => simp at hy
        · cases hq
      · cases hq
    · cases hq
  · cases hq
end


def loadPV (s : StL) (p : PV) (sz : Nat) (ag : Bool) : Option PV :=
  match p with
  | .t k (.rp cs off) => if ag then (if off + sz ≤ cs.length then some (.t k (.agg ((cs.drop off).take sz))) else none) else (cs[off]?).map (PV.t k)
  | .ptr m off => match getM s.M m with
    | .blk _ cs => if ag then (if off + sz ≤ cs.length then some (.agg ((cs.drop off).take sz)) else none) else cs[off]?
    | _ => none
  | .oep m sz' i off => match getM s.M m with
    | .row _ sz'' k xs => if sz' = sz'' ∧ i < xs.length then
        (if ag then (if off + sz ≤ (xs.getD i []).length then some (.t k (.agg (((xs.getD i []).drop off).take sz))) else none) else ((xs.getD i [])[off]?).map (PV.t k)) else none
    | _ => none
  | _ => none

def partPV (p : PV) (off sz : Nat) (ag : Bool) : Option PV :=
  match p with
  | .t k (.agg cs) => if ag then (if off + sz ≤ cs.length then some (.t k (.agg ((cs.drop off).take sz))) else none) else (cs[off]?).map (PV.t k)
  | .agg cs => if ag then (if off + sz ≤ cs.length then some (.agg ((cs.drop off).take sz)) else none) else cs[off]?
  | _ => none

def addrPV (p : PV) (d : Nat) : Option PV :=
  match p with
  | .ptr m off => some (.ptr m (off + d))
  | .t k (.rp cs off) => some (.t k (.rp cs (off + d)))
  | .oep m sz i off => some (.oep m sz i (off + d))
  | _ => none

def idxPV (P : Program) (s : StL) (t : Nat) (x : PV) (i : Int) : Option PV :=
  match x with
  | .t k (.sl tt sz xs) => if slT P t = some sz ∧ 0 ≤ i ∧ i < xs.length then some (.t k (.rp (xs.getD i.toNat []) 0)) else none
  | .osl m => match getM s.M m with
    | .row ty sz k xs => if slT P t = some sz ∧ 0 ≤ i ∧ i < xs.length then some (.oep m sz i.toNat 0) else none
    | _ => none
  | p => match arT P t with
    | some (len, sz) => if 0 ≤ i ∧ i < len then addrPV p (i.toNat * sz) else none
    | none => none

def nilPV : PV → Option PV
  | .ptr m off => some (.ptr m off)
  | .t k (.rp cs off) => some (.t k (.rp cs off))
  | .oep m sz i off => some (.oep m sz i off)
  | _ => none

/-- A bound of a slice expression. -/
def bndPV (s : StL) (x : Option Operand) (d : Nat) : Option Int :=
  match x with
  | none => some d
  | some x => match ev s x with
    | .t _ (.v (.int _ i)) => some i
    | _ => none

def slicePV (P : Program) (s : StL) (t : Nat) (x : PV) (lo hi mx : Option Operand) : Option PV :=
  match x with
  | .t k (.sl tt sz xs) =>
    match bndPV s lo 0, bndPV s hi xs.length, bndPV s mx xs.length with
    | some l, some h, some m =>
      if slT P t = some sz ∧ 0 ≤ l ∧ l ≤ h ∧ h ≤ m ∧ m ≤ xs.length then
        some (.t k (.sl (if (if mx.isSome then decide (m = h) else decide (tt = .tight) && decide (h = xs.length)) then .tight else .any) sz ((xs.drop l.toNat).take (h.toNat - l.toNat)))) else none
    | _, _, _ => none
  | .t k (.rp cs off) => match arT P t with
    | some (len, 1) => match bndPV s hi len with
      | some h => if lo = none ∧ mx = none ∧ 0 ≤ h ∧ h ≤ len ∧ off + len ≤ cs.length ∧ len ≤ 140737488355328 then
          some (.t k (.sl .any 1 (((cs.drop off).take h.toNat).map fun c => [c]))) else none
      | none => none
    | _ => none
  | .osl m => match getM s.M m with
    | .row _ sz _ xs => match bndPV s lo 0, bndPV s hi xs.length with
      | some l, some h => if 500000 ≤ m ∧ slT P t = some sz ∧ mx = none ∧ 0 ≤ l ∧ l < h ∧ h ≤ xs.length then some (.osv m sz l.toNat (h.toNat - l.toNat)) else none
      | _, _ => none
    | _ => none
  | _ => none

def lenPV (s : StL) (x : PV) : Option Nat :=
  match x with
  | .t _ (.sl _ _ xs) => some xs.length
  | .t _ (.v (.slice none 0 0)) => some 0
  | .osl m => match getM s.M m with
    | .row _ _ _ xs => some xs.length
    | _ => none
  | .osv _ _ _ len => some len
  | _ => none

def isSlT (P : Program) (t : Nat) : Bool :=
  match P.underlying t with
  | some (.slice _) => true
  | _ => false

def builtinVal (P : Program) (s : StL) (b : Builtin) (args : List PV) (ts : Array Nat) : Option PV :=
  match b, args with
  | .len, [x] => if (match ts[0]? with | some t => isSlT P t | none => false) then (lenPV s x).map fun (m : Nat) => PV.t .fz (.v (.int .i64 (m : Int))) else none
  | .min, [.t _ (.v (.int k x)), .t _ (.v (.int k' y))] => if k = k' then some (.t .fz (.v (.int k (if y < x then y else x)))) else none
  | .max, [.t _ (.v (.int k x)), .t _ (.v (.int k' y))] => if k = k' then some (.t .fz (.v (.int k (if x < y then y else x)))) else none
  | _, _ => none

def opVal (P : Program) (s : StL) : Op → Option PV
  | .move x => some (ev s x)
  | .assign x => some (ev s x)
  | .pick c x y => match ev s c with
    | .t _ (.v (.bool b)) => some (if b then ev s x else ev s y)
    | _ => none
  | .binOp op t x y _ => match ev s x, ev s y with
    | .t _ (.v u), .t _ (.v u') => (sBinT P op t u u').map fun v => .t .fz (.v v)
    | _, _ => none
  | .unOp op _ x => match ev s x with
    | .t _ (.v u) => (sUn op u).map fun v => .t .fz (.v v)
    | _ => none
  | .convert src dst x => match ev s x, cvT P src dst with
    | .t _ (.v (.int _ m)), some k => some (.t .fz (.v (.int k (k.wrap m))))
    | _, _ => none
  | .nilCheck x => nilPV (ev s x)
  | .fieldAddr t x f => match fldT P t f with
    | some (d, sz) => if sz = 0 then none else addrPV (ev s x) d
    | none => none
  | .indexAddr t x i => match ev s i with
    | .t _ (.v (.int _ i)) => idxPV P s t (ev s x) i
    | _ => none
  | .load t x => match szT P t, aggT P t with
    | some sz, some ag => loadPV s (ev s x) sz ag
    | _, _ => none
  | .extract x i => match ev s x with
    | .t k (.tup cs) => (cs[i]?).map (PV.t k)
    | .tup cs => cs[i]?
    | _ => none
  | .field t x f => match fldT P t f, fldA P t f with
    | some (d, sz), some ag => partPV (ev s x) d sz ag
    | _, _ => none
  | .index t x i => match ev s i, arT P t, arA P t with
    | .t _ (.v (.int _ i)), some (len, sz), some ag => if 0 ≤ i ∧ i < len then partPV (ev s x) (i.toNat * sz) sz ag else none
    | _, _, _ => none
  | .makeFunc (.func f) first caps => if first.size = 0 then some (.clo f (caps.toList.map (ev s))) else none
  | .slice t x lo hi mx => if mx.isSome && hi.isNone then none else slicePV P s t (ev s x) lo hi mx
  | .call c => match c.callee with
    | .builtin b => builtinVal P s b (c.args.toList.map (ev s)) c.argTypes
    | _ => none
  | .lookup t x i ok => lookPV P s t (ev s x) (ev s i) ok
  | .entry x => entPV s (ev s x)
  | _ => none

section
variable {P : Program} {w0 : Base} {F0 : Nat → Prop} {n : Nat} {s : StL} {a : Act} {w : World} {φ : Nat → Value} {fp : Nat → Nat → Prop}

theorem run_value {P : Program} {w w' : World} {x : Sem Value} {v : Value} (h : x.run P w = .ok v w') : (do pure (Next.value (← x)) : Sem Next).run P w = .ok (.value v) w' := by
  simp [h]

theorem TRep.int_inv {S : Nat → Prop} {k : IntKind} {i : Int} {v : Value} (h : TRep w S (.v (.int k i)) v) : v = .int k i := by cases h; rfl
theorem TRep.v_inv {S : Nat → Prop} {x v : Value} (h : TRep w S (.v x) v) : v = x := by cases h; rfl
theorem PVRep.t_inv {St : Kind → Nat → Prop} {k : Kind} {x : TL} {v : Value} (h : PVRep w φ St (.t k x) v) : TRep w (St k) x v := by cases h; assumption

theorem PVRep.nth {St : Kind → Nat → Prop} {vs : Array Value} {cs : List PV} (hr : ∀ (j : Nat) (x : PV), cs[j]? = some x → PVRep w φ St x (vs.getD j Go.undef)) (off sz : Nat) :
    ∀ (j : Nat) (x : PV), ((cs.drop off).take sz)[j]? = some x → PVRep w φ St x (vs.getD (off + j) Go.undef) := by
  intro j x hx
  rw [List.getElem?_take] at hx
  split at hx
  · rw [List.getElem?_drop] at hx
    exact hr _ _ hx
  · cases hx

/-- Loading a run of cells that is known cell by cell. -/
theorem run_loadCells_fn {P : Program} (w : World) (b o sz : Nat) (g : Nat → Value) (h : ∀ j, j < sz → w.cell? ⟨b, o + j, none⟩ = some (g j)) :
    (loadCells ⟨b, o, none⟩ sz).run P w = .ok ((List.range sz).map g).toArray w := by
  have := run_loadCells_list (P := P) w ⟨b, o, none⟩ ((List.range sz).map g) (fun j v hv => by
    simp only [List.getElem?_map] at hv
    obtain ⟨i, hi, rfl⟩ := Option.map_eq_some_iff.1 hv
    obtain ⟨hlt, rfl⟩ := List.getElem?_eq_some_iff.1 hi
    simp only [List.getElem_range]
    have hadd : (⟨b, o, none⟩ : Addr).add j = ⟨b, o + j, none⟩ := by unfold Addr.add; split <;> simp_all
    rw [hadd]
    exact h j (by simpa using hlt))
  simpa using this

theorem getD_range (sz : Nat) (g : Nat → Value) (j : Nat) (h : j < sz) : (((List.range sz).map g).toArray).getD j Go.undef = g j := by
  simp [Array.getD_eq_getD_getElem?, h]

theorem agg_len {α : Type} (cs : List α) (off sz : Nat) (g : Nat → Value) (h : off + sz ≤ cs.length) : ((List.range sz).map g).toArray.size = ((cs.drop off).take sz).length := by
  simp; omega

theorem run_loadVar_agg {P : Program} {t sz : Nat} (hs : szT P t = some sz) (ha : aggT P t = some true) (w : World) (b o : Nat) (g : Nat → Value) (h : ∀ j, j < sz → w.cell? ⟨b, o + j, none⟩ = some (g j)) :
    (loadVar t ⟨b, o, none⟩).run P w = .ok (.agg ((List.range sz).map g).toArray) w := by
  simp [loadVar, aggT_run ha, szT_run hs, run_loadCells_fn w b o sz g h]

theorem run_loadVar_leaf {P : Program} {t : Nat} (ha : aggT P t = some false) (w : World) (A : Addr) (v : Value) (h : w.cell? A = some v) :
    (loadVar t A).run P w = .ok v w := by
  simp [loadVar, aggT_run ha, h]

theorem loadPV_run (h : SimX w0 F0 n s a w φ fp) {t sz : Nat} {ag : Bool} (hs : szT P t = some sz) (ha : aggT P t = some ag) {p q : PV} {u : Value} (hu : PVRep w φ (Stb w0 w fp) p u) (hq : loadPV s p sz ag = some q) :
    ∃ v, (Instr.loadAt t u).run P w = .ok v w ∧ PVRep w φ (Stb w0 w fp) q v := by
  unfold loadPV at hq
  split at hq
  · rename_i k cs off
    have hr := hu.t_inv
    cases hr with
    | @rp _ _ b o g hb hc hrep =>
    cases ag with
    | true =>
      simp only [if_true] at hq
      split at hq
      · rename_i hle
        cases hq
        have hl := run_loadVar_agg hs ha w b (o + off) (fun j => g (off + j)) (fun j hj => by rw [Nat.add_assoc]; exact hc _ (by omega))
        refine ⟨_, by simp only [Instr.loadAt, Instr.sureAddr, Sem.run_bind, Sem.run_pure, Result.andThen_ok]; exact hl, .t (.agg _ (agg_len cs off sz _ hle) fun j x hx => ?_)⟩
        rw [List.getElem?_take] at hx
        split at hx
        · rename_i hj
          rw [List.getElem?_drop] at hx
          rw [getD_range _ _ _ hj]
          exact hrep _ _ hx
        · cases hx
      · cases hq
    | false =>
      simp only [Bool.false_eq_true, if_false] at hq
      obtain ⟨x, hx, rfl⟩ := Option.map_eq_some_iff.1 hq
      have hlt : off < cs.length := (List.getElem?_eq_some_iff.1 hx).1
      exact ⟨g off, by simp only [Instr.loadAt, Instr.sureAddr, Sem.run_bind, Sem.run_pure, Result.andThen_ok]; exact run_loadVar_leaf ha w _ _ (hc off hlt), .t (hrep _ _ hx)⟩
  · rename_i m off
    cases hu with
    | @ptr _ _ g hφ =>
    split at hq
    · rename_i ty cs hM
      have hres := h.res m
      rw [hM] at hres
      obtain ⟨g', vs, hv, hF, hh, hsz, hrep⟩ := hres
      rw [hφ] at hv
      cases hv
      have hcell : ∀ j, w.cell? ⟨g, j, none⟩ = vs[j]? := fun j => cell_of_row w g j vs ty (0, 0) hh
      cases ag with
      | true =>
        simp only [if_true] at hq
        split at hq
        · rename_i hle
          cases hq
          have hl := run_loadVar_agg hs ha w g off (fun j => vs.getD (off + j) Go.undef) (fun j hj => by
            have : off + j < vs.size := by omega
            simp [hcell, this])
          refine ⟨_, by simp only [Instr.loadAt, Instr.sureAddr, Sem.run_bind, Sem.run_pure, Result.andThen_ok]; exact hl, .agg _ (agg_len cs off sz _ hle) fun j x hx => ?_⟩
          have hj : j < sz := by
            rw [List.getElem?_take] at hx
            split at hx
            · assumption
            · cases hx
          rw [getD_range _ _ _ hj]
          exact PVRep.nth hrep off sz j x hx
        · cases hq
      | false =>
        simp only [Bool.false_eq_true, if_false] at hq
        have hlt : off < cs.length := (List.getElem?_eq_some_iff.1 hq).1
        have hl := run_loadVar_leaf (P := P) ha w ⟨g, off, none⟩ (vs.getD off Go.undef) (by
          have : off < vs.size := by omega
          simp [hcell, this])
        exact ⟨vs.getD off Go.undef, by simp only [Instr.loadAt, Instr.sureAddr, Sem.run_bind, Sem.run_pure, Result.andThen_ok]; exact hl, hrep _ _ hq⟩
    · cases hq
  · rename_i m sz' i off
    cases hu with
    | @oep _ _ _ _ g len cap hφ =>
    split at hq
    · rename_i ty sz'' k xs hM
      have hres := h.res m
      rw [hM] at hres
      obtain ⟨cells, hown, hbd, hlen, hrep⟩ := hres
      rw [hφ] at hown
      split at hq
      · rename_i hcond
        obtain ⟨rfl, hi⟩ := hcond
        obtain ⟨hown, hF⟩ := hown.resolve_right (by rintro ⟨rfl, _⟩; simp at hi)
        have hcells := hown.cells (g := g) rfl
        have he : xs[i]? = some (xs.getD i []) := by
          rw [List.getD_eq_getElem?_getD, List.getElem?_eq_getElem hi]; rfl
        have hel : (xs.getD i []).length = sz' := hlen _ (List.mem_of_getElem? he)
        have hidx : ∀ j, j < sz' → i * sz' + j < cells.length := by
          intro j hj
          rw [hown.1]
          have : (i + 1) * sz' ≤ xs.length * sz' := Nat.mul_le_mul_right _ hi
          rw [Nat.add_mul] at this
          omega
        have hcell : ∀ j, j < sz' → w.cell? ⟨g, i * sz' + j, none⟩ = some (cells.getD (i * sz' + j) Go.undef) := by
          intro j hj
          have h1 := hcells (i * sz' + j) _ (List.getElem?_eq_getElem (hidx j hj))
          have hadd : (⟨g, 0, none⟩ : Addr).add (i * sz' + j) = ⟨g, i * sz' + j, none⟩ := by unfold Addr.add; split <;> simp_all
          rw [hadd] at h1
          rw [h1, List.getD_eq_getElem?_getD, List.getElem?_eq_getElem (hidx j hj)]
          rfl
        cases ag with
        | true =>
          simp only [if_true] at hq
          split at hq
          · rename_i hle
            cases hq
            have hl := run_loadVar_agg hs ha w g (i * sz' + off) (fun j => cells.getD (i * sz' + (off + j)) Go.undef) (fun j hj => by rw [Nat.add_assoc]; exact hcell _ (by omega))
            refine ⟨_, by simp only [Instr.loadAt, Instr.sureAddr, Sem.run_bind, Sem.run_pure, Result.andThen_ok]; exact hl, .t (.agg _ (agg_len (xs.getD i []) off sz _ hle) fun j x hx => ?_)⟩
            rw [List.getElem?_take] at hx
            split at hx
            · rename_i hj
              rw [List.getElem?_drop] at hx
              rw [getD_range _ _ _ hj]
              exact hrep i (off + j) _ x he hx
            · cases hx
          · cases hq
        | false =>
          simp only [Bool.false_eq_true, if_false] at hq
          obtain ⟨x, hx, rfl⟩ := Option.map_eq_some_iff.1 hq
          have hlt : off < (xs.getD i []).length := (List.getElem?_eq_some_iff.1 hx).1
          exact ⟨_, by simp only [Instr.loadAt, Instr.sureAddr, Sem.run_bind, Sem.run_pure, Result.andThen_ok]; exact run_loadVar_leaf ha w _ _ (hcell off (by omega)), .t (hrep i off _ x he hx)⟩
      · cases hq
    · cases hq
  · cases hq

end
end Go.PS
/- PS5: every operation that changes nothing answers as opVal says. -/
namespace Go.PS
open Go Go.RowKit

section
variable {P : Program} {w0 : Base} {F0 : Nat → Prop} {n : Nat} {s : StL} {a : Act} {w : World} {φ : Nat → Value} {fp : Nat → Nat → Prop}

theorem addrPV_rep {St : Kind → Nat → Prop} {p q : PV} {u : Value} (d : Nat) (hu : PVRep w φ St p u) (hq : addrPV p d = some q) :
    ∃ b o, u = .pointer (some ⟨b, o, none⟩) ∧ PVRep w φ St q (.pointer (some ⟨b, o + d, none⟩)) := by
  unfold addrPV at hq
  split at hq
  · rename_i m off
    cases hq
    cases hu with
    | ptr h => exact ⟨_, _, rfl, .ptr h⟩
  · rename_i k cs off
    cases hq
    cases hu.t_inv with
    | rp g hb hc hrep => exact ⟨_, _, rfl, by rw [Nat.add_assoc]; exact .t (.rp g hb hc hrep)⟩
  · rename_i m sz i off
    cases hq
    cases hu with
    | oep h => exact ⟨_, _, rfl, by rw [Nat.add_assoc]; exact .oep h⟩
  · cases hq

theorem addr_add (b o d : Nat) : (⟨b, o, none⟩ : Addr).add d = ⟨b, o + d, none⟩ := by unfold Addr.add; split <;> simp_all

theorem szT_info {t m : Nat} (h : szT P t = some m) : ∃ i, P.info? t = some i ∧ i.size = m := by
  unfold szT at h
  obtain ⟨i, hi, rfl⟩ := Option.map_eq_some_iff.1 h
  exact ⟨i, hi, rfl⟩

theorem fieldAddr_run {t f d sz : Nat} (hf : fldT P t f = some (d, sz)) (hsz : sz ≠ 0) (w : World) (b o : Nat) :
    (Instr.fieldAt t (.pointer (some ⟨b, o, none⟩)) f).run P w = .ok (.pointer (some ⟨b, o + d, none⟩)) w := by
  unfold fldT at hf
  split at hf
  · rename_i fs hfs
    split at hf
    · rename_i fl hfl
      obtain ⟨m, hm, he⟩ := Option.map_eq_some_iff.1 hf
      simp only [Prod.mk.injEq] at he
      obtain ⟨rfl, rfl⟩ := he
      simp [Instr.fieldAt, run_underlying hfs, hfl, Instr.sureAddr, fieldPlace, szT_run hm, hsz, addr_add]
    · cases hf
  · cases hf

theorem field_run {t f d sz : Nat} {ag : Bool} (hf : fldT P t f = some (d, sz)) (ha : fldA P t f = some ag) (w : World) (vs : Array Value) (v : Value)
    (hv : if ag then v = .agg (vs.extract d (d + sz)) else vs[d]? = some v) :
    (Instr.field t (.agg vs) f).run P w = .ok v w := by
  unfold fldT at hf
  unfold fldA at ha
  split at hf
  · rename_i fs hfs
    simp only [hfs] at ha
    split at hf
    · rename_i fl hfl
      simp only [hfl] at ha
      obtain ⟨m, hm, he⟩ := Option.map_eq_some_iff.1 hf
      simp only [Prod.mk.injEq] at he
      obtain ⟨rfl, rfl⟩ := he
      cases ag with
      | true =>
        simp only [if_true] at hv
        subst hv
        simp [Instr.field, run_underlying hfs, hfl, asAgg, part, aggT_run ha, szT_run hm]
      | false =>
        simp only [Bool.false_eq_true, if_false] at hv
        simp [Instr.field, run_underlying hfs, hfl, asAgg, part, aggT_run ha, hv]
    · cases hf
  · cases hf

theorem extract_size {vs : Array Value} {d sz : Nat} (h : d + sz ≤ vs.size) : (vs.extract d (d + sz)).size = sz := by simp; omega
theorem extract_getD {vs : Array Value} {d sz j : Nat} (h : j < sz) : (vs.extract d (d + sz)).getD j Go.undef = vs.getD (d + j) Go.undef := by
  simp only [Array.getD_eq_getD_getElem?, Array.getElem?_extract]
  by_cases hb : d + j < vs.size
  · rw [if_pos (by omega)]
  · rw [if_neg (by omega), Array.getElem?_eq_none (by omega)]

theorem partPV_rep {St : Kind → Nat → Prop} {p q : PV} {u : Value} {d sz : Nat} {ag : Bool} (hu : PVRep w φ St p u) (hq : partPV p d sz ag = some q) :
    ∃ vs, u = .agg vs ∧ ∃ v, (if ag then v = .agg (vs.extract d (d + sz)) else vs[d]? = some v) ∧ PVRep w φ St q v := by
  unfold partPV at hq
  split at hq
  · rename_i k cs
    cases hu.t_inv with
    | agg vs hs hrep =>
    refine ⟨vs, rfl, ?_⟩
    cases ag with
    | true =>
      simp only [if_true] at hq ⊢
      split at hq
      · rename_i hle
        cases hq
        refine ⟨_, rfl, .t (.agg _ (by rw [extract_size (by omega)]; simp; omega) fun j x hx => ?_)⟩
        rw [List.getElem?_take] at hx
        split at hx
        · rename_i hj
          rw [List.getElem?_drop] at hx
          rw [extract_getD hj]
          exact hrep _ _ hx
        · cases hx
      · cases hq
    | false =>
      simp only [Bool.false_eq_true, if_false] at hq ⊢
      obtain ⟨x, hx, rfl⟩ := Option.map_eq_some_iff.1 hq
      have hlt : d < vs.size := by rw [hs]; exact (List.getElem?_eq_some_iff.1 hx).1
      refine ⟨vs.getD d Go.undef, by simp [hlt], .t (hrep _ _ hx)⟩
  · rename_i cs
    cases hu with
    | agg vs hs hrep =>
    refine ⟨vs, rfl, ?_⟩
    cases ag with
    | true =>
      simp only [if_true] at hq ⊢
      split at hq
      · rename_i hle
        cases hq
        refine ⟨_, rfl, .agg _ (by rw [extract_size (by omega)]; simp; omega) fun j x hx => ?_⟩
        rw [List.getElem?_take] at hx
        split at hx
        · rename_i hj
          rw [List.getElem?_drop] at hx
          rw [extract_getD hj]
          exact hrep _ _ hx
        · cases hx
      · cases hq
    | false =>
      simp only [Bool.false_eq_true, if_false] at hq ⊢
      have hlt : d < vs.size := by rw [hs]; exact (List.getElem?_eq_some_iff.1 hq).1
      exact ⟨vs.getD d Go.undef, by simp [hlt], hrep _ _ hq⟩
  · cases hq

theorem index_run {t len sz : Nat} {ag : Bool} (har : arT P t = some (len, sz)) (ha : arA P t = some ag) (w : World) (k : IntKind) (i : Int) (h0 : 0 ≤ i) (h1 : i < len) (vs : Array Value) (v : Value)
    (hv : if ag then v = .agg (vs.extract (i.toNat * sz) (i.toNat * sz + sz)) else vs[i.toNat * sz]? = some v) :
    (Instr.index t (.agg vs) (.int k i)).run P w = .ok v w := by
  unfold arT at har
  unfold arA at ha
  split at har
  · rename_i m e he
    simp only [he] at ha
    obtain ⟨z, hz, hee⟩ := Option.map_eq_some_iff.1 har
    simp only [Prod.mk.injEq] at hee
    obtain ⟨rfl, rfl⟩ := hee
    cases ag with
    | true =>
      simp only [if_true] at hv
      subst hv
      simp [Instr.index, run_underlying he, asIntOf, h0, h1, szT_run hz, part, aggT_run ha]
    | false =>
      simp only [Bool.false_eq_true, if_false] at hv
      simp [Instr.index, run_underlying he, asIntOf, h0, h1, szT_run hz, part, aggT_run ha, hv]
  · cases har

theorem idxPV_run (h : SimX w0 F0 n s a w φ fp) {t : Nat} {k : IntKind} {i : Int} {p q : PV} {u : Value} (hu : PVRep w φ (Stb w0 w fp) p u) (hq : idxPV P s t p i = some q) :
    ∃ v, (Instr.indexAt t u (.int k i)).run P w = .ok v w ∧ PVRep w φ (Stb w0 w fp) q v := by
  unfold idxPV at hq
  split at hq
  · rename_i k' tt sz xs
    split at hq
    · rename_i hcond
      obtain ⟨hsl, h0, h1⟩ := hcond
      cases hq
      have hr := hu.t_inv
      cases hr with
      | @sl _ _ _ ao cap g hcap ht hnn hnil hbd ha hlen hrep =>
      have hi : i.toNat < xs.length := by omega
      have hne : xs ≠ [] := by rintro rfl; simp at hi
      obtain ⟨b, o, rfl, hb, hc⟩ := ha.resolve_left hne
      unfold slT at hsl
      split at hsl
      · rename_i e he
        have he' : xs[i.toNat]? = some (xs.getD i.toNat []) := by
          rw [List.getD_eq_getElem?_getD, List.getElem?_eq_getElem hi]; rfl
        have hel : (xs.getD i.toNat []).length = sz := hlen _ (List.mem_of_getElem? he')
        refine ⟨.pointer (some ⟨b, o + i.toNat * sz + 0, none⟩), ?_, .t (.rp (o := o + i.toNat * sz) (fun j => g i.toNat j) hb (fun j hj => by rw [Nat.add_assoc]; exact hc _ _ hi (by omega)) (fun j x hx => hrep _ _ _ _ he' hx))⟩
        simp [Instr.indexAt, asIntOf, run_underlying he, h0, h1, szT_run hsl, addr_add]
      · cases hsl
    · cases hq
  · rename_i m
    split at hq
    · rename_i ty sz k' xs hM
      split at hq
      · rename_i hcond
        obtain ⟨hsl, h0, h1⟩ := hcond
        cases hq
        cases hu with
        | osl hφ =>
        have hres := h.res m
        rw [hM] at hres
        obtain ⟨cells, hown, hbd, hlen, hrep⟩ := hres
        rw [hφ] at hown
        have hi : i.toNat < xs.length := by omega
        obtain ⟨hown, hF⟩ := hown.resolve_right (by rintro ⟨rfl, _⟩; simp at hi)
        obtain ⟨g, cap, hv⟩ : ∃ g cap, φ m = .slice (some ⟨g, 0, none⟩) xs.length cap := by
          rcases hown.2 with ⟨_, hz⟩ | ⟨g, cap, cur, hv, _⟩
          · omega
          · exact ⟨g, cap, hφ.trans hv⟩
        rw [hφ] at hv
        cases hv
        unfold slT at hsl
        split at hsl
        · rename_i e he
          refine ⟨.pointer (some ⟨g, i.toNat * sz + 0, none⟩), ?_, .oep hφ⟩
          simp [Instr.indexAt, asIntOf, run_underlying he, h0, h1, szT_run hsl, addr_add]
        · cases hsl
      · cases hq
    · cases hq
  · split at hq
    · rename_i len sz har
      split at hq
      · rename_i hcond
        obtain ⟨h0, h1⟩ := hcond
        obtain ⟨b, o, rfl, hr⟩ := addrPV_rep _ hu hq
        unfold arT at har
        split at har
        · rename_i m e he
          obtain ⟨z, hz, hee⟩ := Option.map_eq_some_iff.1 har
          simp only [Prod.mk.injEq] at hee
          obtain ⟨rfl, rfl⟩ := hee
          refine ⟨_, ?_, hr⟩
          simp [Instr.indexAt, asIntOf, run_underlying he, h0, h1, szT_run hz, addr_add, Instr.sureAddr]
        · cases har
      · cases hq
    · cases hq

theorem run_sliceBound_ok {x : Value} {k : IntKind} {i : Int} {y : Nat} {code : BoundsCode} (hx : x = .int k i) (h0 : 0 ≤ i) (h1 : i ≤ y) (w : World) : (Instr.sliceBound x y code).run P w = .ok i.toNat w := by
  subst hx
  simp [Instr.sliceBound, asIntOf, h0, h1]

theorem bndPV_rep (h : SimX w0 F0 n s a w φ fp) {x : Option Operand} {d : Nat} {i : Int} (hb : bndPV s x d = some i) : (x = none ∧ i = d) ∨ ∃ x' k, x = some x' ∧ a.eval x' = .int k i := by
  unfold bndPV at hb
  split at hb
  · cases hb; exact .inl ⟨rfl, rfl⟩
  · rename_i x'
    split at hb
    · rename_i k' kk i' he
      cases hb
      have := h.ev x'
      rw [he] at this
      exact .inr ⟨x', _, rfl, this.t_inv.v_inv⟩
    · cases hb

theorem slicePV_run (h : SimX w0 F0 n s a w φ fp) {t : Nat} {p q : PV} {u : Value} {lo hi mx : Option Operand} (hu : PVRep w φ (Stb w0 w fp) p u) (hq : slicePV P s t p lo hi mx = some q) (hmx : mx.isSome = true → hi.isSome = true) :
    ∃ v, (Instr.sliceAt t u (lo.map a.eval) (hi.map a.eval) (mx.map a.eval)).run P w = .ok v w ∧ PVRep w φ (Stb w0 w fp) q v := by
  unfold slicePV at hq
  split at hq
  · rename_i k tt sz xs
    split at hq
    · rename_i l hh m hl1 hh1 hm1
      split at hq
      · rename_i hcond
        obtain ⟨hsl, h0, hlh, hhm, hml⟩ := hcond
        cases hq
        have hr := hu.t_inv
        cases hr with
        | @sl _ _ _ ao cap g hcap ht hnn hnil hbd ha hlen hrep =>
        unfold slT at hsl
        split at hsl
        · rename_i e he
          have el := bndPV_rep h hl1
          have eh := bndPV_rep h hh1
          have em := bndPV_rep h hm1
          -- the bounds as the machine takes them
          have hbnd : ∃ m' : Nat, (Instr.sliceBounds true xs.length cap (lo.map a.eval) (hi.map a.eval) (mx.map a.eval)).run P w = .ok (l.toNat, hh.toNat, m') w ∧ m' ≤ cap ∧ hh.toNat ≤ m' ∧
              ((if mx.isSome then decide (m = hh) else decide (tt = .tight) && decide (hh = xs.length)) = true → m' = hh.toNat) := by
            rcases em with ⟨rfl, hm'⟩ | ⟨xm, km, rfl, hm'⟩
            · rcases eh with ⟨rfl, hh'⟩ | ⟨xh, kh, rfl, hh'⟩
              · rcases el with ⟨rfl, hl'⟩ | ⟨xl, kl, rfl, hl'⟩
                · subst hh'; subst hl'
                  refine ⟨cap, by simp [Instr.sliceBounds], Nat.le_refl _, by omega, fun htt => ?_⟩
                  simp only [Option.isSome_none, Bool.false_eq_true, if_false, Bool.and_eq_true, decide_eq_true_eq] at htt
                  have := ht htt.1
                  omega
                · subst hh'
                  refine ⟨cap, by simp [Instr.sliceBounds, run_sliceBound_ok hl' h0 hlh], Nat.le_refl _, by omega, fun htt => ?_⟩
                  simp only [Option.isSome_none, Bool.false_eq_true, if_false, Bool.and_eq_true, decide_eq_true_eq] at htt
                  have := ht htt.1
                  omega
              · have hb1 := run_sliceBound_ok (P := P) (code := .sliceAcap) hh' (show 0 ≤ hh by omega) (show hh ≤ ((cap : Nat) : Int) by omega) w
                rcases el with ⟨rfl, hl'⟩ | ⟨xl, kl, rfl, hl'⟩
                · subst hl'
                  refine ⟨cap, by simp [Instr.sliceBounds, hb1], Nat.le_refl _, by omega, fun htt => ?_⟩
                  simp only [Option.isSome_none, Bool.false_eq_true, if_false, Bool.and_eq_true, decide_eq_true_eq] at htt
                  have := ht htt.1
                  omega
                · refine ⟨cap, by simp [Instr.sliceBounds, hb1, run_sliceBound_ok hl' h0 (show l ≤ ((hh.toNat : Nat) : Int) by omega)], Nat.le_refl _, by omega, fun htt => ?_⟩
                  simp only [Option.isSome_none, Bool.false_eq_true, if_false, Bool.and_eq_true, decide_eq_true_eq] at htt
                  have := ht htt.1
                  omega
            · rcases eh with ⟨rfl, hh'⟩ | ⟨xh, kh, rfl, hh'⟩
              · simp at hmx
              · have hb0 := run_sliceBound_ok (P := P) (code := .slice3Acap) hm' (show 0 ≤ m by omega) (show m ≤ ((cap : Nat) : Int) by omega) w
                have hb1 := run_sliceBound_ok (P := P) (code := .slice3B) hh' (show 0 ≤ hh by omega) (show hh ≤ ((m.toNat : Nat) : Int) by omega) w
                rcases el with ⟨rfl, hl'⟩ | ⟨xl, kl, rfl, hl'⟩
                · subst hl'
                  refine ⟨m.toNat, by simp [Instr.sliceBounds, hb0, hb1], by omega, by omega, fun htt => ?_⟩
                  simp only [Option.isSome_some, if_true, decide_eq_true_eq] at htt
                  omega
                · refine ⟨m.toNat, by simp [Instr.sliceBounds, hb0, hb1, run_sliceBound_ok hl' h0 (show l ≤ ((hh.toNat : Nat) : Int) by omega)], by omega, by omega, fun htt => ?_⟩
                  simp only [Option.isSome_some, if_true, decide_eq_true_eq] at htt
                  omega
          obtain ⟨m', hbr, hmc, hle, htight⟩ := hbnd
          have hrun : (Instr.sliceAt t (.slice ao xs.length cap) (lo.map a.eval) (hi.map a.eval) (mx.map a.eval)).run P w =
              .ok (.slice (if m' = l.toNat then ao else ao.map (·.add (l.toNat * sz))) (hh.toNat - l.toNat) (m' - l.toNat)) w := by
            simp [Instr.sliceAt, Instr.slice, run_underlying he, hbr, szT_run hsl]
          have hlen' : ((xs.drop l.toNat).take (hh.toNat - l.toNat)).length = hh.toNat - l.toNat := by
            rw [List.length_take, List.length_drop]; omega
          have hget : ∀ i e, ((xs.drop l.toNat).take (hh.toNat - l.toNat))[i]? = some e → xs[l.toNat + i]? = some e := by
            intro i e hi
            rw [List.getElem?_take] at hi
            split at hi
            · rwa [List.getElem?_drop] at hi
            · cases hi
          refine ⟨_, hrun, .t ?_⟩
          conv => rhs; rw [← hlen']
          refine .sl (fun i j => g (l.toNat + i) j) (by rw [hlen']; omega) (fun htt => by
            rw [hlen', htight (by
              by_cases hb : (if mx.isSome then decide (m = hh) else decide (tt = .tight) && decide (hh = xs.length)) = true
              · exact hb
              · rw [if_neg hb] at htt; cases htt)]) (fun hn => by
            exfalso
            by_cases hb : (if mx.isSome then decide (m = hh) else decide (tt = .tight) && decide (hh = xs.length)) = true
            · rw [if_pos hb] at hn; cases hn
            · rw [if_neg hb] at hn; cases hn) (fun hn => ?_) (by rw [hlen']; omega) ?_ (fun e hmem => ?_) (fun i j e x he' hx => hrep _ _ _ _ (hget i e he') hx)
          · have hao : ao = none := by
              by_cases e : m' = l.toNat
              · rwa [if_pos e] at hn
              · rw [if_neg e] at hn; simpa using hn
            have hc0 := hnil hao
            have : m' ≤ cap := hmc
            omega
          · by_cases hz : hh.toNat - l.toNat = 0
            · left
              rw [hz, List.take_zero]
            · right
              have hne : xs ≠ [] := by rintro rfl; simp at hml; omega
              obtain ⟨b, o, rfl, hb, hc⟩ := ha.resolve_left hne
              refine ⟨b, o + l.toNat * sz, by rw [if_neg (by omega)]; simp [addr_add], hb, fun i j hi hj => ?_⟩
              rw [hlen'] at hi
              have := hc (l.toNat + i) j (by omega) hj
              rw [Nat.add_mul] at this
              rw [← this]
              congr 2
              omega
          · obtain ⟨i, hi⟩ := List.getElem?_of_mem hmem
            exact hlen e (List.mem_of_getElem? (hget i e hi))
        · cases hsl
      · cases hq
    · cases hq
  · rename_i k cs off
    split at hq
    · rename_i len har
      split at hq
      · rename_i hh hb
        split at hq
        · rename_i hc
          obtain ⟨rfl, rfl, h0, h1, h2, h3⟩ := hc
          cases hq
          unfold arT at har
          split at har
          · rename_i n' e he
            obtain ⟨m, hm, hmm⟩ := Option.map_eq_some_iff.1 har
            cases hmm
            have hr := hu.t_inv
            cases hr with
            | @rp _ _ b o g hS hcell hrep =>
            have hbnd : (Instr.sliceBounds false len len none (hi.map a.eval) none).run P w = .ok (0, hh.toNat, len) w := by
              rcases bndPV_rep h hb with ⟨rfl, hh'⟩ | ⟨xh, kh, rfl, hh'⟩
              · subst hh'
                simp [Instr.sliceBounds]
              · have hb1 := run_sliceBound_ok (P := P) (code := .sliceAlen) hh' h0 h1 w
                simp [Instr.sliceBounds, hb1]
            have hrun : (Instr.sliceAt t (.pointer (some ⟨b, o + off, none⟩)) none (hi.map a.eval) none).run P w = .ok (.slice (some ⟨b, o + off, none⟩) hh.toNat len) w := by
              simp only [Instr.sliceAt, run_underlying he, Instr.sureAddr, Sem.run_bind, Result.andThen_ok, Sem.run_pure, Option.map_none, hbnd, szT_run hm, Nat.zero_mul, Nat.sub_zero]
              by_cases e0 : len = 0
              · simp [e0]
              · simp [e0, addr_add]
            have hlen' : (((cs.drop off).take hh.toNat).map fun c => [c]).length = hh.toNat := by
              rw [List.length_map, List.length_take, List.length_drop]; omega
            have hget : ∀ i e, (((cs.drop off).take hh.toNat).map fun c => [c])[i]? = some e → i < hh.toNat ∧ ∃ c, e = [c] ∧ cs[off + i]? = some c := by
              intro i e hi'
              rw [List.getElem?_map] at hi'
              obtain ⟨c, hc, rfl⟩ := Option.map_eq_some_iff.1 hi'
              rw [List.getElem?_take] at hc
              split at hc
              · rename_i hlt
                rw [List.getElem?_drop] at hc
                exact ⟨hlt, c, rfl, hc⟩
              · cases hc
            refine ⟨_, hrun, .t ?_⟩
            conv => rhs; rw [← hlen']
            refine .sl (fun i j => g (off + i)) (by rw [hlen']; omega) (by simp) (by simp) (by simp) (by rw [hlen']; omega) (.inr ⟨b, o + off, rfl, hS, fun i j hi hj => ?_⟩) (fun e hmem => ?_) (fun i j e x he' hx => ?_)
            · rw [hlen'] at hi
              have hj0 : j = 0 := by omega
              subst hj0
              have := hcell (off + i) (by omega)
              rw [← this]
              congr 2
              omega
            · obtain ⟨i, hi⟩ := List.getElem?_of_mem hmem
              obtain ⟨_, c, rfl, _⟩ := hget i e hi
              rfl
            · obtain ⟨hlt, c, rfl, hc⟩ := hget i e he'
              have hj0 : j = 0 ∧ x = c := by
                cases j with
                | zero => simp at hx; exact ⟨rfl, hx.symm⟩
                | succ j => simp at hx
              obtain ⟨rfl, rfl⟩ := hj0
              exact hrep (off + i) x hc
          · cases har
        · cases hq
      · cases hq
    · cases hq
  · rename_i m
    split at hq
    · rename_i e0 sz k xs hM
      split at hq
      · rename_i l hh hl1 hh1
        split at hq
        · rename_i hcond
          obtain ⟨_, hsl, rfl, h0, hlh, hhx⟩ := hcond
          cases hq
          cases hu with
          | @osl _ len cap ao hφ =>
          have hres := h.res m
          rw [hM] at hres
          obtain ⟨cells, hown, hbd, hlen, hrep⟩ := hres
          rw [hφ] at hown
          obtain ⟨hown, hF⟩ := hown.resolve_right (by rintro ⟨rfl, _⟩; simp at hhx; omega)
          obtain ⟨g, cap', cur, hv', hb0, hheap, hc1, hc2, hc3, htake⟩ := hown.2.resolve_left (by rintro ⟨_, h2⟩; omega)
          simp only [Value.slice.injEq] at hv'
          obtain ⟨rfl, rfl, rfl⟩ := hv'
          unfold slT at hsl
          split at hsl
          · rename_i e he
            have el := bndPV_rep h hl1
            have eh := bndPV_rep h hh1
            have hbr : (Instr.sliceBounds true xs.length cap (lo.map a.eval) (hi.map a.eval) none).run P w = .ok (l.toNat, hh.toNat, cap) w := by
              rcases eh with ⟨rfl, hh'⟩ | ⟨xh, kh, rfl, hh'⟩
              · rcases el with ⟨rfl, hl'⟩ | ⟨xl, kl, rfl, hl'⟩
                · subst hh'; subst hl'
                  simp [Instr.sliceBounds]
                · subst hh'
                  simp [Instr.sliceBounds, run_sliceBound_ok hl' h0 (show l ≤ ((xs.length : Nat) : Int) by omega)]
              · have hb1 := run_sliceBound_ok (P := P) (code := .sliceAcap) hh' (show 0 ≤ hh by omega) (show hh ≤ ((cap : Nat) : Int) by omega) w
                rcases el with ⟨rfl, hl'⟩ | ⟨xl, kl, rfl, hl'⟩
                · subst hl'
                  simp [Instr.sliceBounds, hb1]
                · simp [Instr.sliceBounds, hb1, run_sliceBound_ok hl' h0 (show l ≤ ((hh.toNat : Nat) : Int) by omega)]
            have hrun : (Instr.sliceAt t (.slice (some ⟨g, 0, none⟩) xs.length cap) (lo.map a.eval) (hi.map a.eval) (Option.map a.eval none)).run P w = .ok (.slice (some ⟨g, l.toNat * sz, none⟩) (hh.toNat - l.toNat) (cap - l.toNat)) w := by
              simp [Instr.sliceAt, Instr.slice, run_underlying he, hbr, szT_run hsl, show cap ≠ l.toNat by omega, addr_add]
            exact ⟨_, hrun, .osv hφ (by omega)⟩
          · cases hsl
        · cases hq
      · cases hq
    · cases hq
  · cases hq

end
end Go.PS
/- PS6: opVal tells what the machine does. -/
namespace Go.PS
open Go Go.RowKit

section
variable {P : Program} {w0 : Base} {F0 : Nat → Prop} {n : Nat} {s : StL} {a : Act} {w : World} {φ : Nat → Value} {fp : Nat → Nat → Prop}

theorem lenPV_rep (h : SimX w0 F0 n s a w φ fp) {p : PV} {u : Value} {m : Nat} (hu : PVRep w φ (Stb w0 w fp) p u) (hq : lenPV s p = some m) : ∃ ao cap, u = .slice ao m cap := by
  unfold lenPV at hq
  split at hq
  · cases hq
    cases hu.t_inv with
    | sl g hcap ht hnn hnil hbd ha hlen hrep => exact ⟨_, _, rfl⟩
  · cases hq
    have := hu.t_inv.v_inv
    exact ⟨_, _, this⟩
  · rename_i m'
    split at hq
    · rename_i ty sz k xs hM
      cases hq
      cases hu with
      | osl hφ =>
      have hres := h.res m'
      rw [hM] at hres
      obtain ⟨cells, hown, _⟩ := hres
      rw [hφ] at hown
      rcases hown with ⟨hown, _⟩ | ⟨rfl, ⟨ao, hv⟩, _⟩
      · rcases hown.2 with ⟨hv, hz⟩ | ⟨g, cap, cur, hv, _⟩
        · exact ⟨none, 0, by rw [hv, hz]⟩
        · exact ⟨_, _, hv⟩
      · exact ⟨ao, 0, hv⟩
    · cases hq
  · cases hq
    cases hu with
    | osv hφ hc => exact ⟨_, _, rfl⟩
  · cases hq

theorem isSlT_run {t : Nat} (h : isSlT P t = true) : ∃ e, P.underlying t = some (.slice e) := by
  unfold isSlT at h
  split at h
  · rename_i e he; exact ⟨e, he⟩
  · cases h

theorem args_one {α : Type} {f : Operand → α} {args : Array Operand} {x : α} (h : args.toList.map f = [x]) : ∃ o, args = #[o] ∧ f o = x := by
  rcases args with ⟨l⟩
  rcases l with _ | ⟨o, _ | ⟨o', l⟩⟩ <;> simp_all

theorem args_two {α : Type} {f : Operand → α} {args : Array Operand} {x y : α} (h : args.toList.map f = [x, y]) : ∃ o o', args = #[o, o'] ∧ f o = x ∧ f o' = y := by
  rcases args with ⟨l⟩
  rcases l with _ | ⟨o, _ | ⟨o', _ | ⟨o'', l⟩⟩⟩
  · simp at h
  · simp at h
  · exact ⟨o, o', rfl, by simpa using h⟩
  · simp at h

theorem builtinVal_run (h : SimX w0 F0 n s a w φ fp) {b : Builtin} {args : Array Operand} {ts : Array Nat} {ty : Nat} {cs : Array Bool} {q : PV}
    (hq : builtinVal P s b (args.toList.map (ev s)) ts = some q) :
    ∃ v, (builtin b ts ty cs (args.map a.eval)).run P w = .ok (.value v) w ∧ PVRep w φ (Stb w0 w fp) q v := by
  unfold builtinVal at hq
  split at hq
  · rename_i x hargs
    cases hts : ts[0]? with
    | none => simp [hts] at hq
    | some t =>
      simp only [hts] at hq
      split at hq
      · rename_i hsl
        obtain ⟨m, hm, rfl⟩ := Option.map_eq_some_iff.1 hq
        obtain ⟨e, he⟩ := isSlT_run hsl
        obtain ⟨o, rfl, hx⟩ := args_one hargs
        have hr := h.ev o
        rw [hx] at hr
        obtain ⟨ao, cap, hv⟩ := lenPV_rep h hr hm
        refine ⟨.int .i64 m, ?_, .t (.v _)⟩
        simp [builtin, Builtin.len_, hts, hv, run_underlying he, goInt]
      · cases hq
  · rename_i k1 k x k2 k' y hargs
    split at hq
    · rename_i hk
      subst hk
      cases hq
      obtain ⟨o, o', rfl, hx, hy⟩ := args_two hargs
      have h1 := h.ev o
      have h2 := h.ev o'
      rw [hx] at h1
      rw [hy] at h2
      refine ⟨_, ?_, .t (.v _)⟩
      simp [builtin, h1.t_inv.v_inv, h2.t_inv.v_inv, run_min_int2]
    · cases hq
  · rename_i k1 k x k2 k' y hargs
    split at hq
    · rename_i hk
      subst hk
      cases hq
      obtain ⟨o, o', rfl, hx, hy⟩ := args_two hargs
      have h1 := h.ev o
      have h2 := h.ev o'
      rw [hx] at h1
      rw [hy] at h2
      refine ⟨_, ?_, .t (.v _)⟩
      simp [builtin, Builtin.max_, Builtin.max2, h1.t_inv.v_inv, h2.t_inv.v_inv]
    · cases hq
  · cases hq

theorem convert_run {src dst : Nat} {k : IntKind} (h : cvT P src dst = some k) (k' : IntKind) (m : Int) (w : World) : (convert src dst (.int k' m)).run P w = .ok (.int k (k.wrap m)) w := by
  unfold cvT at h
  split at h
  · rename_i d k0 hs hd
    cases h
    simp only [convert, Sem.run_bind, run_underlying hs, run_underlying hd, Result.andThen_ok]
    cases d <;> simp [Conv.intToInt]
  · cases h

theorem nilPV_rep {St : Kind → Nat → Prop} {p q : PV} {u : Value} (hu : PVRep w φ St p u) (hq : nilPV p = some q) : ∃ A, u = .pointer (some A) ∧ q = p := by
  unfold nilPV at hq
  split at hq
  · cases hq
    cases hu with
    | ptr h => exact ⟨_, rfl, rfl⟩
  · cases hq
    cases hu.t_inv with
    | rp g hb hc hrep => exact ⟨_, rfl, rfl⟩
  · cases hq
    cases hu with
    | oep h => exact ⟨_, rfl, rfl⟩
  · cases hq

theorem opVal_run (h : SimX w0 F0 n s a w φ fp) {o : Oper} {q : PV} (hq : opVal P s o.op = some q) :
    ∃ v, (execOp a.eval o).run P w = .ok (.value v) w ∧ PVRep w φ (Stb w0 w fp) q v := by
  cases ho : o.op <;> simp only [ho, opVal, reduceCtorEq] at hq
  case move x => cases hq; exact ⟨_, by simp [execOp, ho], h.ev x⟩
  case assign x => cases hq; exact ⟨_, by simp [execOp, ho], h.ev x⟩
  case pick c x y =>
    have hc := h.ev c
    split at hq
    · rename_i k b he
      cases hq
      rw [he] at hc
      have hv := hc.t_inv.v_inv
      refine ⟨if b then a.eval x else a.eval y, by simp [execOp, ho, hv, asBool], ?_⟩
      cases b
      · exact h.ev y
      · exact h.ev x
    · cases hq
  case binOp op t x y t' =>
    have hx := h.ev x
    have hy := h.ev y
    split at hq
    · rename_i k u k' u' he he'
      obtain ⟨v, hv, rfl⟩ := Option.map_eq_some_iff.1 hq
      rw [he] at hx
      rw [he'] at hy
      have := sBinT_run (P := P) (t := t) (xo := x) (yo := y) hv w
      refine ⟨v, ?_, .t (.v _)⟩
      simp only [execOp, ho, hx.t_inv.v_inv, hy.t_inv.v_inv]
      exact run_value this
    · cases hq
  case unOp op t x =>
    have hx := h.ev x
    split at hq
    · rename_i k u he
      obtain ⟨v, hv, rfl⟩ := Option.map_eq_some_iff.1 hq
      rw [he] at hx
      refine ⟨v, ?_, .t (.v _)⟩
      simp only [execOp, ho, hx.t_inv.v_inv]
      exact run_value (sUn_run hv w)
    · cases hq
  case convert src dst x =>
    have hx := h.ev x
    split at hq
    · rename_i k kk m k' he hc
      cases hq
      rw [he] at hx
      refine ⟨_, ?_, .t (.v _)⟩
      simp only [execOp, ho, hx.t_inv.v_inv]
      exact run_value (convert_run hc kk m w)
    · cases hq
  case nilCheck x =>
    have hx := h.ev x
    obtain ⟨A, hA, hqq⟩ := nilPV_rep hx hq
    refine ⟨_, ?_, by rw [hqq]; exact hx⟩
    simp [execOp, ho, hA]
  case fieldAddr t x f =>
    have hx := h.ev x
    split at hq
    · rename_i d sz hf
      split at hq
      · cases hq
      · rename_i hsz
        obtain ⟨b, oo, hA, hr⟩ := addrPV_rep d hx hq
        refine ⟨_, ?_, hr⟩
        simp only [execOp, ho, hA]
        exact run_value (fieldAddr_run hf hsz w b oo)
    · cases hq
  case indexAddr t x i =>
    have hx := h.ev x
    have hi := h.ev i
    split at hq
    · rename_i k kk i' he
      rw [he] at hi
      obtain ⟨v, hv, hr⟩ := idxPV_run h (k := kk) hx hq
      refine ⟨v, ?_, hr⟩
      simp only [execOp, ho, hi.t_inv.v_inv]
      exact run_value hv
    · cases hq
  case load t x =>
    have hx := h.ev x
    split at hq
    · rename_i sz ag hs ha
      obtain ⟨v, hv, hr⟩ := loadPV_run h hs ha hx hq
      refine ⟨v, ?_, hr⟩
      simp only [execOp, ho]
      exact run_value hv
    · cases hq
  case extract x i =>
    have hx := h.ev x
    split at hq
    · rename_i k cs he
      rw [he] at hx
      obtain ⟨y, hy, rfl⟩ := Option.map_eq_some_iff.1 hq
      generalize hu : a.eval x = u at hx
      cases hx.t_inv with
      | tup vs hs hrep =>
      have hlt : i < vs.size := by rw [hs]; exact (List.getElem?_eq_some_iff.1 hy).1
      refine ⟨vs.getD i Go.undef, ?_, .t (hrep _ _ hy)⟩
      simp [execOp, ho, hu, Instr.extract, hlt]
    · rename_i cs he
      rw [he] at hx
      generalize hu : a.eval x = u at hx
      cases hx with
      | tup vs hs hrep =>
      have hlt : i < vs.size := by rw [hs]; exact (List.getElem?_eq_some_iff.1 hq).1
      refine ⟨vs.getD i Go.undef, ?_, hrep _ _ hq⟩
      simp [execOp, ho, hu, Instr.extract, hlt]
    · cases hq
  case field t x f =>
    have hx := h.ev x
    split at hq
    · rename_i d sz ag hf ha
      obtain ⟨vs, hu, v, hv, hr⟩ := partPV_rep hx hq
      refine ⟨v, ?_, hr⟩
      simp only [execOp, ho, hu]
      exact run_value (field_run hf ha w vs v hv)
    · cases hq
  case index t x i =>
    have hx := h.ev x
    have hi := h.ev i
    split at hq
    · rename_i k kk i' len sz ag he har ha
      split at hq
      · rename_i hcond
        rw [he] at hi
        obtain ⟨vs, hu, v, hv, hr⟩ := partPV_rep hx hq
        refine ⟨v, ?_, hr⟩
        simp only [execOp, ho, hu, hi.t_inv.v_inv]
        exact run_value (index_run har ha w kk i' hcond.1 hcond.2 vs v hv)
      · cases hq
    · cases hq
  case makeFunc fn first caps =>
    cases fn <;> simp only [reduceCtorEq] at hq
    rename_i f
    split at hq
    · rename_i hf
      cases hq
      have hf' : first = #[] := Array.eq_empty_of_size_eq_zero hf
      subst hf'
      refine ⟨.func (.func f) #[] (caps.map a.eval), by simp [execOp, ho, Instr.makeFunc], .clo _ (by simp) fun j x hx => ?_⟩
      rw [List.getElem?_map] at hx
      obtain ⟨y, hy, rfl⟩ := Option.map_eq_some_iff.1 hx
      rw [Array.getElem?_toList] at hy
      have : (caps.map a.eval).getD j Go.undef = a.eval y := by
        simp [Array.getD_eq_getD_getElem?, hy]
      rw [this]
      exact h.ev y
    · cases hq
  case slice t x lo hi mx =>
    have hx := h.ev x
    split at hq
    · cases hq
    · rename_i hc
      obtain ⟨v, hv, hr⟩ := slicePV_run h hx hq (fun hm => by
        cases hi with
        | none => simp [hm] at hc
        | some _ => rfl)
      refine ⟨v, ?_, hr⟩
      simp only [execOp, ho]
      exact run_value hv
  case call c =>
    split at hq
    · rename_i b hb
      obtain ⟨v, hv, hr⟩ := builtinVal_run h (ty := o.type) (cs := c.args.map fun | .const _ => true | _ => false) hq
      refine ⟨v, ?_, hr⟩
      simp only [execOp, ho, resolve, hb, Sem.run_bind, Sem.run_pure, Result.andThen_ok, invoke]
      exact hv
    · cases hq
  case lookup t x i ok =>
    obtain ⟨v, hr, hv⟩ := lookPV_run h (h.ev x) (h.ev i) hq
    exact ⟨v, by simp only [execOp, ho]; exact run_value hr, hv⟩
  case entry x =>
    obtain ⟨v, hr, hv⟩ := entPV_run h (h.ev x) hq
    exact ⟨v, by simp only [execOp, ho]; exact run_value hr, hv⟩

end
end Go.PS
/- PS7: new blocks (a variable, a boxed value), writes, literals. -/
namespace Go.PS
open Go Go.RowKit

def TL.leaf : TL → Bool
  | .v x => x.oneCell'
  | .sl _ _ _ => true
  | .rp _ _ => true
  | .clo _ _ => true
  | _ => false

def cellsPV : PV → Option (List PV)
  | .agg cs => some cs
  | .t k (.agg cs) => some (cs.map (PV.t k))
  | .t k x => if x.leaf then some [.t k x] else none
  | .tup _ => none
  | .undef => none
  | p => some [p]

def Kind.join (k k' : Kind) : Kind := match k, k' with
  | .fz, .fz => .fz
  | _, _ => .ro

def lowerPV : PV → Option (Kind × TL)
  | .t _ (.v x) => if x.oneCell' then some (.fz, .v x) else none
  | .t k x => if x.leaf then some (k, x) else none
  | _ => none

def lowerL : List PV → Option (Kind × List TL)
  | [] => some (.fz, [])
  | p :: l => match lowerPV p, lowerL l with
    | some (k, x), some (k', xs) => some (k.join k', x :: xs)
    | _, _ => none

def spl {α : Type} (cs : List α) (off : Nat) (ps : List α) : List α := cs.take off ++ ps ++ cs.drop (off + ps.length)
def upd {α : Type} (cs : List α) (off : Nat) (ps : List α) : List α := match ps with
  | [x] => cs.set off x
  | ps => spl cs off ps

theorem spl_get {α : Type} {cs ps : List α} {off : Nat} (h : off + ps.length ≤ cs.length) (i : Nat) : (spl cs off ps)[i]? = if off ≤ i ∧ i < off + ps.length then ps[i - off]? else cs[i]? := by
  unfold spl
  rw [List.append_assoc]
  by_cases h1 : i < off
  · rw [List.getElem?_append_left (by simp; omega), List.getElem?_take, if_pos h1, if_neg (by omega)]
  · rw [List.getElem?_append_right (by simp; omega)]
    have hl : (cs.take off).length = off := by simp; omega
    rw [hl]
    by_cases h2 : i < off + ps.length
    · rw [List.getElem?_append_left (by omega), if_pos ⟨by omega, h2⟩]
    · rw [List.getElem?_append_right (by omega), if_neg (by omega), List.getElem?_drop]
      congr 1
      omega

theorem spl_length {α : Type} {cs ps : List α} {off : Nat} (h : off + ps.length ≤ cs.length) : (spl cs off ps).length = cs.length := by
  unfold spl; simp; omega

theorem upd_get {α : Type} {cs ps : List α} {off : Nat} (h : off + ps.length ≤ cs.length) (i : Nat) : (upd cs off ps)[i]? = if off ≤ i ∧ i < off + ps.length then ps[i - off]? else cs[i]? := by
  unfold upd
  split
  · rename_i x
    simp only [List.length_cons, List.length_nil, Nat.zero_add] at h ⊢
    by_cases e : off = i
    · subst e
      rw [List.getElem?_set_self (by omega), if_pos (by omega)]
      simp
    · rw [List.getElem?_set_ne e, if_neg (by omega)]
  · exact spl_get h i

theorem upd_length {α : Type} {cs ps : List α} {off : Nat} (h : off + ps.length ≤ cs.length) : (upd cs off ps).length = cs.length := by
  unfold upd
  split
  · simp
  · exact spl_length h

theorem Stb.weak {w0 : Base} {w : World} {fp : Nat → Nat → Prop} {k k' : Kind} {g : Nat} (h : Stb w0 w fp (k.join k') g ∨ Stb w0 w fp k g) : Stb w0 w fp .ro g := by
  rcases h with h | h <;> exact ⟨h.1, h.2.1, h.2.2.imp id fun e => ⟨rfl, e.2⟩⟩

theorem TRep.join {w0 : Base} {w : World} {fp : Nat → Nat → Prop} {k : Kind} {x : TL} {v : Value} (h : TRep w (Stb w0 w fp k) x v) (k' : Kind) : TRep w (Stb w0 w fp (k.join k')) x v := by
  refine h.mono (fun _ _ => rfl) fun g hg => ?_
  cases k <;> cases k' <;> first | exact hg | exact ⟨hg.1, hg.2.1, hg.2.2.imp id fun e => ⟨rfl, e.2⟩⟩

theorem Kind.join_comm (k k' : Kind) : k.join k' = k'.join k := by cases k <;> cases k' <;> rfl

section
variable {P : Program} {w0 : Base} {F0 : Nat → Prop} {n : Nat} {s : StL} {a : Act} {w : World} {φ : Nat → Value} {fp : Nat → Nat → Prop}

theorem TRep.leaf_one {S : Nat → Prop} {x : TL} {v : Value} (h : TRep w S x v) (hl : x.leaf = true) : v.oneCell' = true := by
  cases h <;> simp_all [TL.leaf, Value.oneCell']

theorem oneCell_cells {v : Value} (h : v.oneCell' = true) : v.cells = #[v] := by
  cases v <;> simp_all [Value.oneCell', Value.cells]

theorem cellsPV_rep {St : Kind → Nat → Prop} {p : PV} {u : Value} {cs : List PV} (hu : PVRep w φ St p u) (hc : cellsPV p = some cs) :
    u.cells.size = cs.length ∧ ∀ (j : Nat) (x : PV), cs[j]? = some x → PVRep w φ St x (u.cells.getD j Go.undef) := by
  unfold cellsPV at hc
  split at hc
  · cases hc
    cases hu with
    | agg vs hs hrep => exact ⟨hs, hrep⟩
  · cases hc
    cases hu.t_inv with
    | agg vs hs hrep =>
      refine ⟨by simp [Value.cells, hs], fun j x hx => ?_⟩
      rw [List.getElem?_map] at hx
      obtain ⟨y, hy, rfl⟩ := Option.map_eq_some_iff.1 hx
      exact .t (hrep _ _ hy)
  · split at hc
    · rename_i hl
      cases hc
      have h1 := oneCell_cells (hu.t_inv.leaf_one hl)
      rw [h1]
      refine ⟨by simp, fun j x hx => ?_⟩
      cases j with
      | zero => simp at hx; subst hx; simpa using hu
      | succ j => simp at hx
    · cases hc
  · cases hc
  · cases hc
  · rename_i h1 h2 h3 h4 h5
    cases hc
    have h1 : u.cells = #[u] := by
      cases hu with
      | t h => exact absurd rfl (h3 _ _)
      | agg => exact absurd rfl (h1 _)
      | tup => exact absurd rfl (h4 _)
      | undef => exact absurd rfl h5
      | ptr => rfl
      | osl => rfl
      | oep => rfl
      | omp => rfl
      | osv => rfl
      | clo => rfl
    rw [h1]
    refine ⟨by simp, fun j x hx => ?_⟩
    cases j with
    | zero => simp at hx; subst hx; simpa using hu
    | succ j => simp at hx

theorem menL_map (k : Kind) (d : Nat) : ∀ cs : List TL, PV.menL d (cs.map (PV.t k)) = false
  | [] => rfl
  | c :: cs => by simp [PV.menL, PV.men, menL_map k d cs]

theorem cellsPV_men {p : PV} {cs : List PV} {d : Nat} (hc : cellsPV p = some cs) (hm : p.men d = false) : PV.menL d cs = false := by
  unfold cellsPV at hc
  split at hc
  · cases hc; simpa [PV.men] using hm
  · cases hc; exact menL_map _ _ _
  · split at hc
    · cases hc; simp [PV.menL, PV.men]
    · cases hc
  · cases hc
  · cases hc
  · cases hc; simp [PV.menL, hm]

theorem ev_men {d : Nat} (h : s.free d = true) (x : Operand) : (ev s x).men d = false := by
  simp only [StL.free, Bool.and_eq_true] at h
  cases x with
  | tmp t => exact getT_men h.1.1 t
  | const v => cases v <;> rfl
  | func f => simp [ev, PV.men, PV.menL]
  | global g => rfl

/-- A boxed value, a variable: block and name. -/
theorem SimX.newBlk (h : SimX w0 F0 n s a w φ fp) {d : Nat} (hd : s.free d = true) (hdn : d < n) (ty : Nat) {vs : Array Value} {cs : List PV} (hs : vs.size = cs.length) (hm : PV.menL d cs = false)
    (hr : ∀ (j : Nat) (x : PV), cs[j]? = some x → PVRep w φ (Stb w0 w fp) x (vs.getD j Go.undef)) :
    Sim w0 F0 n ⟨(d, .ptr d 0) :: s.T, (d, .blk ty cs) :: s.M⟩ (a.put (some d) (.pointer (some ⟨w.heap.size, 0, none⟩))) (w.alloc (.cells vs ty)) := by
  obtain ⟨φ', fp', h', hne, hv⟩ := h.new hd (o := .cells vs ty) (r := .blk ty cs) (v := .pointer (some ⟨w.heap.size, 0, none⟩)) (by
    intro φ' fp' hne hv hS hSc
    refine ⟨w.heap.size, vs, rfl, fun _ => Iff.rfl, heap_alloc_new w _, hs, fun j x hx => ((hr j x hx).mono hSc hS).rename fun m hm' => hne m ?_⟩
    rintro rfl
    rw [PV.menL_get hx hm] at hm'
    cases hm')
  exact ⟨φ', fp', h'.put hdn (.ptr hv)⟩

theorem run_newVar {t : Nat} (v : Value) (w : World) : (newVar t v).run P w = .ok ⟨w.heap.size, 0, none⟩ (w.alloc (.cells v.cells t)) := by
  simp [newVar, newRow]

def zT (P : Program) (t : Nat) : Option (List Value) := ((P.info? t).bind (·.zero)).map fun z => z.cells.toList

theorem zT_run {t : Nat} {l : List Value} (h : zT P t = some l) (w : World) : ∃ z : Value, (zeroValue t).run P w = .ok z w ∧ z.cells.toList = l := by
  unfold zT at h
  obtain ⟨z, hz, rfl⟩ := Option.map_eq_some_iff.1 h
  obtain ⟨i, hi, hz⟩ := Option.bind_eq_some_iff.1 hz
  exact ⟨z, by simp [zeroValue, typeInfo, hi, hz], rfl⟩

end

/-- What a store leaves. -/
def storePV (P : Program) (s : StL) (t : Nat) (p v : PV) : Option StL :=
  match cellsPV v, szT P t with
  | some us, some sz =>
    if us.length = sz then
      match p with
      | .ptr m off => match getM s.M m with
        | .blk ty cs => if off + us.length ≤ cs.length ∧ us.all (fun p => match p with | .t _ x => x.leaf | .agg _ => false | .tup _ => false | .undef => false | _ => true) then some ⟨s.T, (m, .blk ty (upd cs off us)) :: s.M⟩ else none
        | _ => none
      | .oep m sz' i off => match getM s.M m, lowerL us with
        | .row ty sz'' k xs, some (k', es) =>
          if sz' = sz'' ∧ i < xs.length ∧ off + es.length ≤ sz' then some ⟨s.T, (m, .row ty sz'' (k.join k') (xs.set i (upd (xs.getD i []) off es))) :: s.M⟩ else none
        | _, _ => none
      | _ => none
    else none
  | _, _ => none

section
variable {P : Program} {w0 : Base} {F0 : Nat → Prop} {n : Nat} {s : StL} {a : Act} {w : World} {φ : Nat → Value} {fp : Nat → Nat → Prop}

theorem lowerPV_rep {p : PV} {u : Value} {k : Kind} {x : TL} (hu : PVRep w φ (Stb w0 w fp) p u) (hl : lowerPV p = some (k, x)) : TRep w (Stb w0 w fp k) x u ∧ u.oneCell' = true := by
  unfold lowerPV at hl
  split at hl
  · split at hl
    · cases hl
      have := hu.t_inv.v_inv
      subst this
      exact ⟨.v _, by assumption⟩
    · cases hl
  · split at hl
    · rename_i hlf
      cases hl
      exact ⟨hu.t_inv, hu.t_inv.leaf_one hlf⟩
    · cases hl
  · cases hl

theorem lowerL_rep : ∀ {ps : List PV} {k : Kind} {xs : List TL} {us : Nat → Value}, (∀ (j : Nat) (x : PV), ps[j]? = some x → PVRep w φ (Stb w0 w fp) x (us j)) → lowerL ps = some (k, xs) →
    xs.length = ps.length ∧ (∀ (j : Nat) (x : TL), xs[j]? = some x → TRep w (Stb w0 w fp k) x (us j)) ∧ ∀ j, j < ps.length → (us j).oneCell' = true
  | [], k, xs, us, hr, hl => by
    simp only [lowerL, Option.some.injEq, Prod.mk.injEq] at hl
    obtain ⟨rfl, rfl⟩ := hl
    exact ⟨rfl, fun j x hx => by simp at hx, fun j hj => by simp at hj⟩
  | p :: ps, k, xs, us, hr, hl => by
    simp only [lowerL] at hl
    split at hl
    · rename_i k1 x k2 xs' h1 h2
      simp only [Option.some.injEq, Prod.mk.injEq] at hl
      obtain ⟨rfl, rfl⟩ := hl
      obtain ⟨hl2, hr2, ho2⟩ := lowerL_rep (us := fun j => us (j + 1)) (fun j x hx => hr (j + 1) x (by simpa using hx)) h2
      obtain ⟨hr1, ho1⟩ := lowerPV_rep (hr 0 p (by simp)) h1
      refine ⟨by simp [hl2], fun j x' hx => ?_, fun j hj => ?_⟩
      · cases j with
        | zero => simp at hx; subst hx; exact hr1.join _
        | succ j => rw [Kind.join_comm]; exact (hr2 j x' (by simpa using hx)).join _
      · cases j with
        | zero => exact ho1
        | succ j => exact ho2 j (by simpa using hj)
    · cases hl

theorem run_storeVar_row {t g off sz : Nat} {ty : Nat} {cur : Array Value} {v : Value} (hs : szT P t = some sz) (hv : v.cells.size = sz) (hg : w.heap[g]? = some (.cells cur ty (0, 0))) (hle : off + sz ≤ cur.size)
    (h1 : ∀ u ∈ v.cells.toList, u.oneCell' = true) :
    (storeVar t ⟨g, off, none⟩ v).run P w = .ok () (w.setRow g (spl cur.toList off v.cells.toList).toArray) := by
  have := run_storeCells_at P g off ty v.cells.toList 0 cur w hg (by simp; omega) h1
  simp only [Nat.add_zero] at this
  simp only [storeVar, Sem.run_bind, szT_run hs, Result.andThen_ok, hv]
  simp [this, spl]

theorem leafAll {us : List PV} (h : us.all (fun p => match p with | .t _ x => x.leaf | .agg _ => false | .tup _ => false | .undef => false | _ => true) = true) {v : Value}
    (hs : v.cells.size = us.length) (hr : ∀ (j : Nat) (x : PV), us[j]? = some x → PVRep w φ (Stb w0 w fp) x (v.cells.getD j Go.undef)) : ∀ u ∈ v.cells.toList, u.oneCell' = true := by
  intro u hu
  obtain ⟨j, hj⟩ := List.getElem?_of_mem hu
  rw [Array.getElem?_toList] at hj
  have hlt : j < v.cells.size := (Array.getElem?_eq_some_iff.1 hj).1
  have hx : us[j]? = some us[j] := List.getElem?_eq_getElem (by omega)
  have hd : v.cells.getD j Go.undef = u := by simp [Array.getD_eq_getD_getElem?, hj]
  have := hr j _ hx
  rw [hd] at this
  have hl := (List.all_eq_true.1 h) _ (List.getElem_mem (l := us) (by omega : j < us.length))
  generalize us[j] = p at this hl
  cases this with
  | t h => exact h.leaf_one hl
  | ptr => rfl
  | osl => rfl
  | oep => rfl
  | omp => rfl
  | osv => rfl
  | clo => rfl
  | agg => simp at hl
  | tup => simp at hl
  | undef => simp at hl

theorem storePV_run (h : SimX w0 F0 n s a w φ fp) {t : Nat} {p v : PV} {up uv : Value} {s' : StL} (hp : PVRep w φ (Stb w0 w fp) p up) (hv : PVRep w φ (Stb w0 w fp) v uv) (hq : storePV P s t p v = some s') :
    ∃ w', (Instr.storeAt t up uv).run P w = .ok () w' ∧ SimX w0 F0 n s' a w' φ fp := by
  unfold storePV at hq
  split at hq
  · rename_i us sz hus hsz
    obtain ⟨hsize, hcell⟩ := cellsPV_rep hv hus
    split at hq
    · rename_i hlen
      split at hq
      · rename_i m off
        cases hp with
        | @ptr _ _ g hφ =>
        split at hq
        · rename_i ty cs hM
          split at hq
          · rename_i hcond
            obtain ⟨hle, hleaf⟩ := hcond
            cases hq
            have hres := h.res m
            rw [hM] at hres
            obtain ⟨g', vs, hvv, hF, hh, hsv, hrep⟩ := hres
            rw [hφ] at hvv
            cases hvv
            have hrun := run_storeVar_row (P := P) (off := off) (v := uv) hsz (by omega) hh (by omega) (leafAll hleaf hsize hcell)
            refine ⟨_, by simp only [Instr.storeAt, Instr.sureAddr, Sem.run_bind, Sem.run_pure, Result.andThen_ok]; exact hrun, ?_⟩
            refine h.write rfl rfl rfl (by simp [World.setRow]) (fun k hk => setRow_other w g k _ (fun e => hk ((hF _).2 e))) fun hS hSc => ?_
            refine ⟨g, _, hφ, hF, setRow_heap w g vs _ ty _ hh, ?_, fun j x hx => ?_⟩
            · have : (spl vs.toList off uv.cells.toList).length = vs.toList.length := spl_length (by simp; omega)
              simp only [List.size_toArray, this, upd_length hle]
              simpa using hsv
            · rw [upd_get hle] at hx
              have hg : (spl vs.toList off uv.cells.toList).toArray.getD j Go.undef = ((spl vs.toList off uv.cells.toList)[j]?).getD Go.undef := by simp [Array.getD_eq_getD_getElem?]
              rw [hg, spl_get (by simp; omega)]
              by_cases hc : off ≤ j ∧ j < off + us.length
              · rw [if_pos hc] at hx
                rw [if_pos (by simp; omega)]
                have := (hcell _ _ hx).mono hSc hS
                simpa [Array.getD_eq_getD_getElem?] using this
              · rw [if_neg hc] at hx
                rw [if_neg (by simp; omega)]
                have := (hrep _ _ hx).mono hSc hS
                simpa [Array.getD_eq_getD_getElem?] using this
          · cases hq
        · cases hq
      · rename_i m sz' i off
        cases hp with
        | @oep _ _ _ _ g len cap hφ =>
        split at hq
        · rename_i ty sz'' k xs k' es hM hes
          split at hq
          · rename_i hcond
            obtain ⟨rfl, hi, hle⟩ := hcond
            cases hq
            have hres := h.res m
            rw [hM] at hres
            obtain ⟨cells, hown, hbd, hlenx, hrep⟩ := hres
            rw [hφ] at hown
            obtain ⟨hown, hF⟩ := hown.resolve_right (by rintro ⟨rfl, _⟩; simp at hi)
            obtain ⟨hle1, hre, hone⟩ := lowerL_rep (us := fun j => uv.cells.getD j Go.undef) hcell hes
            obtain ⟨hcl, hor⟩ := hown
            obtain ⟨g', cap', cur, hv', hb0, hh, hc1, hc2, hc3, htake⟩ := hor.resolve_left (by rintro ⟨h1, _⟩; cases h1)
            simp only [Value.slice.injEq, Option.some.injEq, Addr.mk.injEq, and_true] at hv'
            obtain ⟨rfl, hlen', rfl⟩ := hv'
            have hmul : (i + 1) * sz' ≤ xs.length * sz' := Nat.mul_le_mul_right _ hi
            have hmul' : xs.length * sz' ≤ cap * sz' := Nat.mul_le_mul_right _ hc1
            rw [Nat.add_mul] at hmul
            have hone' : ∀ u ∈ uv.cells.toList, u.oneCell' = true := by
              intro u hu
              obtain ⟨j, hj⟩ := List.getElem?_of_mem hu
              rw [Array.getElem?_toList] at hj
              have hlt : j < uv.cells.size := (Array.getElem?_eq_some_iff.1 hj).1
              have := hone j (by omega)
              simpa [Array.getD_eq_getD_getElem?, hj] using this
            have hsz0 : uv.cells.toList.length = es.length := by simp; omega
            have hrun := run_storeVar_row (P := P) (off := i * sz' + off) (v := uv) hsz (by omega) hh (by omega) hone'
            refine ⟨_, by simp only [Instr.storeAt, Instr.sureAddr, Sem.run_bind, Sem.run_pure, Result.andThen_ok]; exact hrun, ?_⟩
            refine h.write rfl rfl rfl (by simp [World.setRow]) (fun q hq => setRow_other w g q _ (fun e => hq ((hF _).2 (by rw [e]; rfl)))) fun hS hSc => ?_
            have hspl : i * sz' + off + uv.cells.toList.length ≤ cur.toList.length := by simp; omega
            have hxe : xs[i]? = some (xs.getD i []) := by
              rw [List.getD_eq_getElem?_getD, List.getElem?_eq_getElem hi]; rfl
            have hel : (xs.getD i []).length = sz' := hlenx _ (List.mem_of_getElem? hxe)
            have hupl : (upd (xs.getD i []) off es).length = sz' := by rw [upd_length (by omega), hel]
            refine ⟨(spl cur.toList (i * sz' + off) uv.cells.toList).take (xs.length * sz'), .inl ⟨⟨?_, .inr ⟨g, cap, _, by rw [hφ, hlen']; simp, Nat.zero_le _, setRow_heap w g cur _ ty _ hh, by simpa using hc1, hc2, ?_, by simp⟩⟩, fun q => by rw [hφ]; exact hF q⟩, by simpa using hbd, fun e he => ?_, fun i' j e x he hx => ?_⟩
            · rw [List.length_take, spl_length hspl, List.length_set]
              simp; omega
            · simp [spl_length hspl, hc3]
            · rcases List.mem_or_eq_of_mem_set he with he | he
              · exact hlenx e he
              · rw [he]; exact hupl
            · have hi' : i' < xs.length := by
                have := (List.getElem?_eq_some_iff.1 he).1
                simpa using this
              have hj : j < sz' := by
                have h1 := (List.getElem?_eq_some_iff.1 hx).1
                have h2 : e.length = sz' := by
                  rcases List.mem_or_eq_of_mem_set (List.mem_of_getElem? he) with he' | he'
                  · exact hlenx e he'
                  · rw [he']; exact hupl
                omega
              have hmul2 : (i' + 1) * sz' ≤ xs.length * sz' := Nat.mul_le_mul_right _ hi'
              rw [Nat.add_mul] at hmul2
              have hold : cells.getD (i' * sz' + j) Go.undef = (cur.toList[i' * sz' + j]?).getD Go.undef := by
                rw [← htake, List.getD_eq_getElem?_getD, List.getElem?_take, if_pos (by omega)]
              have hnew : ((spl cur.toList (i * sz' + off) uv.cells.toList).take (xs.length * sz')).getD (i' * sz' + j) Go.undef = ((spl cur.toList (i * sz' + off) uv.cells.toList)[i' * sz' + j]?).getD Go.undef := by
                rw [List.getD_eq_getElem?_getD, List.getElem?_take, if_pos (by omega)]
              rw [hnew, spl_get hspl]
              by_cases hii : i = i'
              · subst hii
                rw [List.getElem?_set_self hi] at he
                cases he
                rw [upd_get (by omega)] at hx
                by_cases hc : off ≤ j ∧ j < off + es.length
                · rw [if_pos hc] at hx
                  rw [if_pos (by omega)]
                  have h0 := ((hre _ _ hx).mono (hSc _) (hS _)).join k
                  rw [Kind.join_comm] at h0
                  have e1 : i * sz' + j - (i * sz' + off) = j - off := by omega
                  rw [e1]
                  simpa [Array.getD_eq_getD_getElem?] using h0
                · rw [if_neg hc] at hx
                  rw [if_neg (by omega)]
                  have h0 := ((hrep i j _ x hxe hx).mono (hSc _) (hS _)).join k'
                  rw [hold] at h0
                  exact h0
              · rw [List.getElem?_set_ne hii] at he
                rw [if_neg (by
                  rintro ⟨h1, h2⟩
                  rcases Nat.lt_or_gt_of_ne hii with hlt | hgt
                  · have : (i + 1) * sz' ≤ i' * sz' := Nat.mul_le_mul_right _ hlt
                    rw [Nat.add_mul] at this
                    omega
                  · have : (i' + 1) * sz' ≤ i * sz' := Nat.mul_le_mul_right _ hgt
                    rw [Nat.add_mul] at this
                    omega)]
                have h0 := ((hrep i' j _ x he hx).mono (hSc _) (hS _)).join k'
                rw [hold] at h0
                exact h0
          · cases hq
        · cases hq
      · cases hq
    · cases hq
  · cases hq

end
end Go.PS
/- PS8: literals (build, buildSlice), make, append. -/
namespace Go.PS
open Go Go.RowKit

theorem spl_spl {α : Type} {cs ps qs : List α} {o : Nat} (h : o + ps.length + qs.length ≤ cs.length) : spl (spl cs o ps) (o + ps.length) qs = spl cs o (ps ++ qs) := by
  have h1 : o + ps.length ≤ cs.length := by omega
  apply List.ext_getElem?
  intro i
  rw [spl_get (by rw [spl_length h1]; omega), spl_get h1, spl_get (by simp; omega)]
  simp only [List.length_append]
  by_cases ha : o + ps.length ≤ i ∧ i < o + ps.length + qs.length
  · rw [if_pos ha, if_pos (by omega), List.getElem?_append_right (by omega)]
    congr 1; omega
  · rw [if_neg ha]
    by_cases hb : o ≤ i ∧ i < o + ps.length
    · rw [if_pos hb, if_pos (by omega), List.getElem?_append_left (by omega)]
    · rw [if_neg hb, if_neg (by omega)]

theorem spl_one {α : Type} {cs : List α} {o : Nat} {x : α} (h : o < cs.length) : spl cs o [x] = cs.set o x := by
  apply List.ext_getElem?
  intro i
  rw [spl_get (by simp; omega)]
  by_cases e : o = i
  · subst e
    rw [if_pos (by simp), List.getElem?_set_self h]; simp
  · rw [if_neg (by simp; omega), List.getElem?_set_ne e]

theorem fold_spl (off : Nat) : ∀ (l : List Value) (k : Nat) (acc : Array Value), off + k + l.length ≤ acc.size →
    ((l.zipIdx k).foldl (fun cs p => cs.setIfInBounds (off + p.2) p.1) acc).toList = spl acc.toList (off + k) l
  | [], k, acc, h => by simp [spl]
  | x :: l, k, acc, h => by
    simp only [List.length_cons] at h
    simp only [List.zipIdx_cons, List.foldl_cons]
    rw [fold_spl off l (k + 1) _ (by simp; omega)]
    have e1 : (acc.setIfInBounds (off + k) x).toList = spl acc.toList (off + k) [x] := by
      rw [spl_one (by simp; omega)]; simp
    rw [e1]
    have := spl_spl (cs := acc.toList) (ps := [x]) (qs := l) (o := off + k) (by simp; omega)
    simp only [List.length_cons, List.length_nil, Nat.zero_add, List.singleton_append] at this
    exact this

theorem fill_one (cells : Array Value) (off : Nat) (v : Value) (h : off + v.cells.size ≤ cells.size) :
    (v.cells.zipIdx.foldl (fun cs (p : Value × Nat) => cs.setIfInBounds (off + p.2) p.1) cells).toList = spl cells.toList off v.cells.toList := by
  rw [← Array.foldl_toList, Array.toList_zipIdx]
  have := fold_spl off v.cells.toList 0 cells (by simp; omega)
  simpa using this

/-- A literal's parts in their places. -/
theorem fill_parts (place : Nat → Option (Nat × Nat)) : ∀ (parts : List (Nat × Value)) (cells : Array Value) (offs : List Nat),
    offs.length = parts.length → (∀ (j : Nat) (p : Nat × Value) (o : Nat), parts[j]? = some p → offs[j]? = some o → place p.1 = some (o, p.2.cells.size) ∧ o + p.2.cells.size ≤ cells.size) →
    ∃ out, Instr.fill place cells parts = some out ∧ out.toList = (parts.zip offs).foldl (fun cs (p : (Nat × Value) × Nat) => spl cs p.2 p.1.2.cells.toList) cells.toList
  | [], cells, offs, hl, hp => ⟨cells, rfl, by simp⟩
  | (i, v) :: parts, cells, [], hl, hp => by simp at hl
  | (i, v) :: parts, cells, o :: offs, hl, hp => by
    obtain ⟨h1, h2⟩ := hp 0 (i, v) o (by simp) (by simp)
    simp only at h1 h2
    have hf := fill_one cells o v h2
    have hsz : (v.cells.zipIdx.foldl (fun cs (p : Value × Nat) => cs.setIfInBounds (o + p.2) p.1) cells).size = cells.size := by
      have := congrArg List.length hf
      rw [spl_length (by simp; omega)] at this
      simpa using this
    obtain ⟨out, ho, hl'⟩ := fill_parts place parts (v.cells.zipIdx.foldl (fun cs (p : Value × Nat) => cs.setIfInBounds (o + p.2) p.1) cells) offs (by simpa using hl) (fun j p o' hj ho' => by
      have := hp (j + 1) p o' (by simpa using hj) (by simpa using ho')
      rw [hsz]
      exact this)
    refine ⟨out, ?_, ?_⟩
    · rw [← ho]
      simp only [Instr.fill, h1]
      rw [if_neg (by simp; omega)]
    · rw [hl', hf]
      simp

/-- Parts as cells of a state. -/
def fillPV (cs : List PV) : List (Nat × List PV) → Option (List PV)
  | [] => some cs
  | (o, us) :: rest => if o + us.length ≤ cs.length then fillPV (upd cs o us) rest else none

/-- The places of a struct's or an array's parts. -/
def placeT (P : Program) (t i : Nat) : Option (Nat × Nat) :=
  match P.underlying t with
  | some (.struct fs) => fldT P t i
  | some (.array _ e) => (szT P e).map fun m => (i * m, m)
  | _ => none

def partsPV (P : Program) (s : StL) (t : Nat) : List (Nat × Operand) → Option (List (Nat × List PV))
  | [] => some []
  | (i, x) :: rest => match placeT P t i, cellsPV (ev s x), partsPV P s t rest with
    | some (o, m), some us, some r => if us.length = m then some ((o, us) :: r) else none
    | _, _, _ => none

def buildPV (P : Program) (s : StL) (t : Nat) (parts : List (Nat × Operand)) : Option PV :=
  match zT P t, partsPV P s t parts with
  | some z, some ps => (fillPV (z.map fun c => PV.t .fz (.v c)) ps).map PV.agg
  | _, _ => none

section
variable {P : Program} {w0 : Base} {F0 : Nat → Prop} {n : Nat} {s : StL} {a : Act} {w : World} {φ : Nat → Value} {fp : Nat → Nat → Prop}

theorem fillPV_rep {St : Kind → Nat → Prop} : ∀ (ps : List (Nat × List PV)) (qs : List ((Nat × Value) × Nat)) (cs out : List PV) (vs : List Value), cs.length = vs.length →
    (∀ (j : Nat) (x : PV), cs[j]? = some x → PVRep w φ St x (vs.getD j Go.undef)) → ps.length = qs.length →
    (∀ (i : Nat) (p : Nat × List PV) (q : (Nat × Value) × Nat), ps[i]? = some p → qs[i]? = some q → p.1 = q.2 ∧ q.1.2.cells.size = p.2.length ∧ ∀ (j : Nat) (x : PV), p.2[j]? = some x → PVRep w φ St x (q.1.2.cells.getD j Go.undef)) →
    fillPV cs ps = some out →
    out.length = vs.length ∧ ((qs.foldl (fun cs (p : (Nat × Value) × Nat) => spl cs p.2 p.1.2.cells.toList) vs).length = vs.length) ∧
      ∀ (j : Nat) (x : PV), out[j]? = some x → PVRep w φ St x ((qs.foldl (fun cs (p : (Nat × Value) × Nat) => spl cs p.2 p.1.2.cells.toList) vs).getD j Go.undef)
  | [], [], cs, out, vs, hl, hr, _, _, hf => by
    simp only [fillPV, Option.some.injEq] at hf
    subst hf
    exact ⟨hl, rfl, hr⟩
  | [], _ :: _, cs, out, vs, hl, hr, h, _, hf => by simp at h
  | _ :: _, [], cs, out, vs, hl, hr, h, _, hf => by simp at h
  | (o, us) :: ps, ((i, v), o') :: qs, cs, out, vs, hl, hr, hlen, hp, hf => by
    obtain ⟨h1, h2, h3⟩ := hp 0 (o, us) ((i, v), o') (by simp) (by simp)
    simp only at h1 h2 h3
    subst h1
    simp only [fillPV] at hf
    split at hf
    · rename_i hle
      have hle' : o + v.cells.toList.length ≤ vs.length := by simp; omega
      have := fillPV_rep ps qs (upd cs o us) out (spl vs o v.cells.toList) (by rw [upd_length hle, spl_length hle', hl]) (fun j x hx => by
        rw [upd_get hle] at hx
        rw [List.getD_eq_getElem?_getD, spl_get hle']
        by_cases hc : o ≤ j ∧ j < o + us.length
        · rw [if_pos hc] at hx
          rw [if_pos (by simp; omega)]
          have := h3 _ _ hx
          simpa [Array.getD_eq_getD_getElem?] using this
        · rw [if_neg hc] at hx
          rw [if_neg (by simp; omega)]
          have := hr _ _ hx
          rwa [List.getD_eq_getElem?_getD] at this) (by simpa using hlen) (fun i' p q hp' hq' => hp (i' + 1) p q (by simpa using hp') (by simpa using hq')) hf
      rw [spl_length hle'] at this
      exact this
    · cases hf

theorem partsPV_rep (h : SimX w0 F0 n s a w φ fp) {t : Nat} : ∀ (parts : List (Nat × Operand)) (ps : List (Nat × List PV)), partsPV P s t parts = some ps →
    ps.length = parts.length ∧ ∀ (i : Nat) (p : Nat × List PV) (q : Nat × Operand), ps[i]? = some p → parts[i]? = some q →
      placeT P t q.1 = some (p.1, p.2.length) ∧ (a.eval q.2).cells.size = p.2.length ∧ ∀ (j : Nat) (x : PV), p.2[j]? = some x → PVRep w φ (Stb w0 w fp) x ((a.eval q.2).cells.getD j Go.undef)
  | [], ps, hp => by
    simp only [partsPV, Option.some.injEq] at hp
    subst hp
    exact ⟨rfl, fun i p q h1 _ => by simp at h1⟩
  | (i, x) :: rest, ps, hp => by
    simp only [partsPV] at hp
    split at hp
    · rename_i o m us r h1 h2 h3
      split at hp
      · rename_i hm
        cases hp
        obtain ⟨hl, hr⟩ := partsPV_rep h rest r h3
        refine ⟨by simp [hl], fun j p q hj hq => ?_⟩
        cases j with
        | zero =>
          simp at hj hq
          subst hj hq
          obtain ⟨hs, hc⟩ := cellsPV_rep (h.ev x) h2
          exact ⟨by rw [h1, hm], hs, hc⟩
        | succ j => exact hr j p q (by simpa using hj) (by simpa using hq)
      · cases hp
    · cases hp

/-- How the machine finds the places. -/
theorem fields_mapM {fs : Array Field} (w : World) (h : ∀ f ∈ fs, (szT P f.type).isSome = true) :
    (fs.mapM fun f => do pure (f.offset, ← sizeOf f.type) : Sem (Array (Nat × Nat))).run P w = .ok (fs.map fun f => (f.offset, (szT P f.type).getD 0)) w := by
  rw [Array.mapM_eq_mapM_toList]
  have key : ∀ l : List Field, (∀ f ∈ l, (szT P f.type).isSome = true) → (l.mapM fun f => do pure (f.offset, ← sizeOf f.type) : Sem (List (Nat × Nat))).run P w = .ok (l.map fun f => (f.offset, (szT P f.type).getD 0)) w := by
    intro l
    induction l with
    | nil => intro _; rfl
    | cons f l ih =>
      intro hf
      obtain ⟨m, hm⟩ := Option.isSome_iff_exists.1 (hf f (by simp))
      have ih' := ih fun g hg => hf g (List.mem_cons_of_mem _ hg)
      rw [List.mapM_cons]
      simp only [Sem.run_bind, szT_run hm, Result.andThen_ok, Sem.run_pure, ih', List.map_cons, hm, Option.getD_some]
  have := key fs.toList (fun f hf => h f (by simpa using hf))
  simp only [Sem.run_map]
  rw [this]
  simp only [Result.andThen_ok, Result.ok.injEq, and_true]
  apply Array.ext'
  simp

/-- All the fields' types are known. -/
def fldsOk (P : Program) (t : Nat) : Bool :=
  match P.underlying t with
  | some (.struct fs) => fs.all fun f => (szT P f.type).isSome
  | some (.array _ e) => (szT P e).isSome
  | _ => false

theorem buildPV_run (h : SimX w0 F0 n s a w φ fp) {t : Nat} {parts : Array (Nat × Operand)} {q : PV} (hok : fldsOk P t = true) (hq : buildPV P s t parts.toList = some q) :
    ∃ v, (Instr.build t (parts.map fun (i, x) => (i, a.eval x))).run P w = .ok v w ∧ PVRep w φ (Stb w0 w fp) q v := by
  unfold buildPV at hq
  split at hq
  · rename_i z ps hz hps
    obtain ⟨out, hout, rfl⟩ := Option.map_eq_some_iff.1 hq
    obtain ⟨zv, hzr, hzc⟩ := zT_run hz w
    obtain ⟨hpl, hpr⟩ := partsPV_rep h parts.toList ps hps
    have hzero : ∀ (j : Nat) (x : PV), (z.map fun c => PV.t .fz (.v c))[j]? = some x → PVRep w φ (Stb w0 w fp) x (zv.cells.toList.getD j Go.undef) := by
      intro j x hx
      rw [List.getElem?_map] at hx
      obtain ⟨c, hc, rfl⟩ := Option.map_eq_some_iff.1 hx
      rw [hzc, List.getD_eq_getElem?_getD, hc]
      exact .t (.v _)
    let vals : List (Nat × Value) := parts.toList.map fun p => (p.1, a.eval p.2)
    let offs : List Nat := ps.map (·.1)
    have hfin : ∀ place : Nat → Option (Nat × Nat), (∀ p ∈ parts.toList, ∀ o, placeT P t p.1 = some o → place p.1 = some o) → ∃ cells, Instr.fill place zv.cells vals = some cells ∧ PVRep w φ (Stb w0 w fp) (.agg out) (.agg cells) := by
      intro place hplace
      have hbnd : ∀ (ps : List (Nat × List PV)) (cs out : List PV), fillPV cs ps = some out → ∀ p ∈ ps, p.1 + p.2.length ≤ cs.length := by
        intro ps
        induction ps with
        | nil => intro cs out _ p hp; simp at hp
        | cons q ps ih =>
          intro cs out hf p hp
          obtain ⟨o, us⟩ := q
          simp only [fillPV] at hf
          split at hf
          · rename_i hle
            rcases List.mem_cons.1 hp with rfl | hp
            · exact hle
            · have := ih _ _ hf p hp
              rwa [upd_length hle] at this
          · cases hf
      have hb := hbnd ps _ out hout
      obtain ⟨res, hres, hresl⟩ := fill_parts place vals zv.cells offs (by simp [offs, vals, hpl]) (fun j p o hp ho => by
        simp only [vals, List.getElem?_map] at hp
        obtain ⟨q, hq, rfl⟩ := Option.map_eq_some_iff.1 hp
        simp only [offs, List.getElem?_map] at ho
        obtain ⟨r, hr, rfl⟩ := Option.map_eq_some_iff.1 ho
        obtain ⟨h1, h2, h3⟩ := hpr j r q hr hq
        refine ⟨by rw [hplace q (List.mem_of_getElem? hq) _ h1, h2], ?_⟩
        have := hb r (List.mem_of_getElem? hr)
        have hzl : z.length = zv.cells.size := by rw [← hzc]; simp
        simp only [List.length_map] at this
        simp only
        omega)
      obtain ⟨hl1, hl2, hl3⟩ := fillPV_rep ps (vals.zip offs) (z.map fun c => PV.t .fz (.v c)) out zv.cells.toList (by rw [hzc]; simp) hzero (by simp [vals, offs, hpl]) (fun i p q hp hq => by
        rw [List.getElem?_zip_eq_some] at hq
        obtain ⟨hq1, hq2⟩ := hq
        simp only [vals, List.getElem?_map] at hq1
        obtain ⟨q', hq', e1⟩ := Option.map_eq_some_iff.1 hq1
        simp only [offs, List.getElem?_map, hp, Option.map_some, Option.some.injEq] at hq2
        obtain ⟨h1, h2, h3⟩ := hpr i p q' hp hq'
        rw [← e1]
        exact ⟨hq2, h2, h3⟩) hout
      rw [← hresl] at hl2 hl3
      simp only [Array.length_toList] at hl1 hl2
      refine ⟨res, hres, .agg res (by omega) fun j x hx => ?_⟩
      have := hl3 j x hx
      simpa [Array.getD_eq_getD_getElem?] using this
    have hpm : (parts.map fun (i, x) => (i, a.eval x)).toList = vals := by simp [vals]
    unfold fldsOk at hok
    split at hok
    · rename_i fs hfs
      have hall : ∀ f ∈ fs, (szT P f.type).isSome = true := fun f hf => by
        have := Array.all_eq_true'.1 hok f hf
        exact this
      obtain ⟨cells, hc, hr⟩ := hfin (fun i => (fs.map fun f => (f.offset, (szT P f.type).getD 0))[i]?) (fun p hp o ho => by
        simp only [placeT, hfs, fldT] at ho
        split at ho
        · rename_i fl hfl
          obtain ⟨m, hm, rfl⟩ := Option.map_eq_some_iff.1 ho
          simp [hfl, hm]
        · cases ho)
      refine ⟨.agg cells, ?_, hr⟩
      simp only [Instr.build, Sem.run_bind, hzr, Result.andThen_ok, run_underlying hfs]
      rw [fields_mapM (P := P) w hall]
      simp only [Result.andThen_ok, hpm]
      rw [hc]
      rfl
    · rename_i m e he
      cases hsz : szT P e with
      | none => simp [hsz] at hok
      | some sz =>
        obtain ⟨cells, hc, hr⟩ := hfin (fun i => some (i * sz, sz)) (fun p hp o ho => by
          simp only [placeT, he, hsz, Option.map_some] at ho
          exact ho)
        refine ⟨.agg cells, ?_, hr⟩
        simp only [Instr.build, Sem.run_bind, hzr, Result.andThen_ok, run_underlying he, szT_run hsz, hpm]
        rw [hc]
        rfl
    · cases hok
  · cases hq

end
end Go.PS
/- PS9: slice literals, make, append; forgetting a name's mentions. -/
namespace Go.PS
open Go Go.RowKit

theorem flat_get {α : Type} {sz : Nat} : ∀ {l : List (List α)}, (∀ e ∈ l, e.length = sz) → ∀ {i j : Nat}, j < sz → l.flatten[i * sz + j]? = (l[i]?).bind (·[j]?)
  | [], _, i, j, _ => by simp
  | e :: l, h, 0, j, hj => by
    have he := h e (by simp)
    simp only [List.flatten_cons, Nat.zero_mul, Nat.zero_add]
    rw [List.getElem?_append_left (by omega)]
    simp
  | e :: l, h, i + 1, j, hj => by
    have he := h e (by simp)
    simp only [List.flatten_cons]
    rw [List.getElem?_append_right (by rw [he, Nat.add_mul]; omega)]
    have : (i + 1) * sz + j - e.length = i * sz + j := by rw [he, Nat.add_mul]; omega
    rw [this, flat_get (fun e' h' => h e' (List.mem_cons_of_mem _ h')) hj]
    simp

theorem flat_length {α : Type} {sz : Nat} : ∀ {l : List (List α)}, (∀ e ∈ l, e.length = sz) → l.flatten.length = l.length * sz
  | [], _ => by simp
  | e :: l, h => by
    have he := h e (by simp)
    simp only [List.flatten_cons, List.length_append, List.length_cons, he]
    rw [flat_length (fun e' h' => h e' (List.mem_cons_of_mem _ h')), Nat.add_mul]
    omega

theorem fold_concat {α : Type} {sz : Nat} : ∀ (l : List (List α)) (k : Nat) (cs : List α), (∀ e ∈ l, e.length = sz) → (k + l.length) * sz ≤ cs.length →
    (l.zipIdx k).foldl (fun cs p => spl cs (p.2 * sz) p.1) cs = spl cs (k * sz) l.flatten
  | [], k, cs, _, _ => by simp [spl]
  | e :: l, k, cs, h, hle => by
    have he := h e (by simp)
    have hl := fun e' h' => h e' (List.mem_cons_of_mem _ h')
    have hfl := flat_length hl
    simp only [List.length_cons] at hle
    have h2 : (k + (l.length + 1)) * sz = k * sz + sz + l.length * sz := by rw [Nat.add_mul, Nat.add_mul]; omega
    simp only [List.zipIdx_cons, List.foldl_cons, List.flatten_cons]
    rw [fold_concat l (k + 1) _ hl (by
      rw [spl_length (by omega)]
      have : (k + 1 + l.length) * sz = (k + (l.length + 1)) * sz := by congr 1; omega
      omega)]
    have e1 : (k + 1) * sz = k * sz + e.length := by rw [Nat.add_mul, he]; omega
    rw [e1, spl_spl (by omega)]

/-- A slice literal's elements, one by one. -/
def rowPV (s : StL) (sz : Nat) : Nat → List (Nat × Operand) → Option (Kind × List (List TL))
  | _, [] => some (.fz, [])
  | j, (i, x) :: rest => if i = j then
      match cellsPV (ev s x), rowPV s sz (j + 1) rest with
      | some us, some (k', es) => match lowerL us with
        | some (k, e) => if e.length = sz then some (k.join k', e :: es) else none
        | none => none
      | _, _ => none
    else none

def elT (P : Program) (t : Nat) : Option Nat :=
  match P.underlying t with
  | some (.slice e) => some e
  | _ => none

def byT (P : Program) (t : Nat) : Option Nat := (P.info? t).map (·.bytes)

section
variable {P : Program} {w0 : Base} {F0 : Nat → Prop} {n : Nat} {s : StL} {a : Act} {w : World} {φ : Nat → Value} {fp : Nat → Nat → Prop}

theorem rowPV_rep (h : SimX w0 F0 n s a w φ fp) {sz : Nat} : ∀ (parts : List (Nat × Operand)) (j : Nat) (k : Kind) (xs : List (List TL)), rowPV s sz j parts = some (k, xs) →
    xs.length = parts.length ∧ (∀ e ∈ xs, e.length = sz) ∧ (∀ (i : Nat) (p : Nat × Operand), parts[i]? = some p → p.1 = j + i ∧ (a.eval p.2).cells.size = sz ∧ ∀ u ∈ (a.eval p.2).cells.toList, u.oneCell' = true) ∧
    ∀ (i q : Nat) (p : Nat × Operand) (e : List TL) (x : TL), parts[i]? = some p → xs[i]? = some e → e[q]? = some x → TRep w (Stb w0 w fp k) x ((a.eval p.2).cells.getD q Go.undef)
  | [], j, k, xs, hr => by
    simp only [rowPV, Option.some.injEq, Prod.mk.injEq] at hr
    obtain ⟨rfl, rfl⟩ := hr
    refine ⟨rfl, fun e he => ?_, fun i p hp => ?_, fun i q p e x hp => ?_⟩
    · simp at he
    · simp at hp
    · simp at hp
  | (i, x) :: rest, j, k, xs, hr => by
    simp only [rowPV] at hr
    split at hr
    · rename_i hij
      split at hr
      · rename_i us k' es hus hrest
        split at hr
        · rename_i k1 e1 hl1
          split at hr
          · rename_i hel
            simp only [Option.some.injEq, Prod.mk.injEq] at hr
            obtain ⟨rfl, rfl⟩ := hr
            obtain ⟨hs, hc⟩ := cellsPV_rep (h.ev x) hus
            obtain ⟨hle, hre, hone⟩ := lowerL_rep (us := fun j => (a.eval x).cells.getD j Go.undef) hc hl1
            obtain ⟨h1, h2, h3, h4⟩ := rowPV_rep h rest (j + 1) k' es hrest
            refine ⟨by simp [h1], ?_, ?_, ?_⟩
            · intro e he
              rcases List.mem_cons.1 he with rfl | he
              · exact hel
              · exact h2 e he
            · intro i' p hp
              cases i' with
              | zero =>
                simp at hp
                subst hp
                refine ⟨by simp [hij], by show (a.eval x).cells.size = sz; omega, fun u hu => ?_⟩
                obtain ⟨q, hq⟩ := List.getElem?_of_mem hu
                rw [Array.getElem?_toList] at hq
                have hlt : q < (a.eval x).cells.size := (Array.getElem?_eq_some_iff.1 hq).1
                have := hone q (by omega)
                simpa [Array.getD_eq_getD_getElem?, hq] using this
              | succ i' =>
                obtain ⟨h5, h6⟩ := h3 i' p (by simpa using hp)
                exact ⟨by omega, h6⟩
            · intro i' q p e x' hp he hx
              cases i' with
              | zero =>
                simp at hp he
                subst hp he
                exact (hre q x' hx).join k'
              | succ i' =>
                rw [Kind.join_comm]
                exact (h4 i' q p e x' (by simpa using hp) (by simpa using he) hx).join k1
          · cases hr
        · cases hr
      · cases hr
    · cases hr

/-- A row made in a new block. -/
theorem SimX.newRow (h : SimX w0 F0 n s a w φ fp) {d : Nat} (hd : s.free d = true) (hdn : d < n) (ty sz : Nat) (k : Kind) {cells : Array Value} {xs : List (List TL)} (cap : Nat) (hc0 : xs.length ≤ cap) (hc1 : cap ≤ maxLen)
    (hcs : cells.size = cap * sz) (hbd : xs.length ≤ 140737488355328) (hl : ∀ e ∈ xs, e.length = sz)
    (hr : ∀ (i j : Nat) (e : List TL) (x : TL), xs[i]? = some e → e[j]? = some x → TRep w (Stb w0 w fp k) x (cells.getD (i * sz + j) Go.undef)) :
    Sim w0 F0 n ⟨(d, .osl d) :: s.T, (d, .row ty sz k xs) :: s.M⟩ (a.put (some d) (.slice (some ⟨w.heap.size, 0, none⟩) xs.length cap)) (w.alloc (.cells cells ty)) := by
  have hlen : (cells.toList.take (xs.length * sz)).length = xs.length * sz := by
    have : xs.length * sz ≤ cap * sz := Nat.mul_le_mul_right _ hc0
    rw [List.length_take]; simp; omega
  obtain ⟨φ', fp', h', hne, hv⟩ := h.new hd (o := .cells cells ty) (r := .row ty sz k xs) (v := .slice (some ⟨w.heap.size, 0, none⟩) xs.length cap) (by
    intro φ' fp' hne hv hS hSc
    refine ⟨cells.toList.take (xs.length * sz), .inl ⟨⟨hlen, .inr ⟨w.heap.size, cap, cells, rfl, Nat.zero_le _, heap_alloc_new w _, hc0, hc1, hcs, rfl⟩⟩, fun g => by simp [Value.ownBlock, eq_comm]⟩, hbd, hl, fun i j e x he hx => ?_⟩
    have hi := (List.getElem?_eq_some_iff.1 he).1
    have hj := (List.getElem?_eq_some_iff.1 hx).1
    rw [hl e (List.mem_of_getElem? he)] at hj
    have hmul : (i + 1) * sz ≤ xs.length * sz := Nat.mul_le_mul_right _ hi
    rw [Nat.add_mul] at hmul
    rw [List.getD_eq_getElem?_getD, List.getElem?_take, if_pos (by omega)]
    have := (hr i j e x he hx).mono (hSc _) (hS _)
    simpa [Array.getD_eq_getD_getElem?] using this)
  exact ⟨φ', fp', h'.put hdn (.osl hv)⟩

theorem elT_und {t e : Nat} (h : elT P t = some e) : P.underlying t = some (.slice e) := by
  unfold elT at h
  split at h
  · cases h; assumption
  · cases h

theorem buildSlice_run (h : SimX w0 F0 n s a w φ fp) {d t e len sz : Nat} {parts : Array (Nat × Operand)} {k : Kind} {xs : List (List TL)} {z : List Value} (hd : s.free d = true) (hdn : d < n)
    (he : elT P t = some e) (hsz : szT P e = some sz) (hz : zT P e = some z) (hzl : z.length = sz) (hlen : len = parts.size) (hbig : len * sz ≤ 16777216) (hpos : 0 < sz) (hq : rowPV s sz 0 parts.toList = some (k, xs)) :
    ∃ v w', (Instr.buildSlice t len (parts.map fun (i, x) => (i, a.eval x))).run P w = .ok v w' ∧ Sim w0 F0 n ⟨(d, .osl d) :: s.T, (d, .row e sz k xs) :: s.M⟩ (a.put (some d) v) w' := by
  obtain ⟨h1, h2, h3, h4⟩ := rowPV_rep h parts.toList 0 k xs hq
  obtain ⟨zv, hzr, hzc⟩ := zT_run hz w
  have hzs : zv.cells.size = sz := by have := congrArg List.length hzc; simpa [hzl] using this
  let vals : List (Nat × Value) := parts.toList.map fun p => (p.1, a.eval p.2)
  have hpm : (parts.map fun (i, x) => (i, a.eval x)).toList = vals := by simp [vals]
  have hxl : xs.length = len := by rw [h1, hlen]; simp
  let base : Array Value := (Array.range (len * sz)).map fun i => ((if len * sz = 0 then #[] else zv.cells))[i % (if len * sz = 0 then #[] else zv.cells).size]!
  have hbs : base.size = len * sz := by simp [base]
  have hv3 : ∀ (i : Nat) (p : Nat × Value), vals[i]? = some p → p.1 = i ∧ p.2.cells.size = sz := by
    intro i p hp
    simp only [vals, List.getElem?_map] at hp
    obtain ⟨q, hq', rfl⟩ := Option.map_eq_some_iff.1 hp
    obtain ⟨h5, h6, _⟩ := h3 i q hq'
    exact ⟨by simpa using h5, h6⟩
  obtain ⟨res, hres, hresl⟩ := fill_parts (fun i => some (i * sz, sz)) vals base ((List.range vals.length).map (· * sz)) (by simp) (fun j p o hp ho => by
    obtain ⟨h5, h6⟩ := hv3 j p hp
    have hj : j < vals.length := (List.getElem?_eq_some_iff.1 hp).1
    have ho' : o = j * sz := by
      rw [List.getElem?_map, List.getElem?_range hj] at ho
      simpa using ho.symm
    refine ⟨by simp [h5, h6, ho'], ?_⟩
    have hvl : vals.length = len := by simp [vals, hlen]
    have hmul : (j + 1) * sz ≤ len * sz := Nat.mul_le_mul_right _ (by omega)
    rw [Nat.add_mul] at hmul
    rw [h6, hbs, ho']
    omega)
  have hflat : res.toList = (vals.map fun p => p.2.cells.toList).flatten := by
    rw [hresl]
    have e1 : ((vals.zip ((List.range vals.length).map (· * sz))).foldl (fun cs (p : (Nat × Value) × Nat) => spl cs p.2 p.1.2.cells.toList) base.toList) =
        ((vals.map fun p => p.2.cells.toList).zipIdx 0).foldl (fun cs p => spl cs (p.2 * sz) p.1) base.toList := by
      generalize base.toList = acc
      have key : ∀ (l : List (Nat × Value)) (k : Nat) (acc : List Value), (l.zip ((List.range' k l.length).map (· * sz))).foldl (fun cs (p : (Nat × Value) × Nat) => spl cs p.2 p.1.2.cells.toList) acc =
          ((l.map fun p => p.2.cells.toList).zipIdx k).foldl (fun cs p => spl cs (p.2 * sz) p.1) acc := by
        intro l
        induction l with
        | nil => intro k acc; rfl
        | cons p l ih =>
          intro k acc
          simp only [List.length_cons, List.range'_succ, List.map_cons, List.zip_cons_cons, List.foldl_cons, List.zipIdx_cons]
          exact ih (k + 1) _
      have := key vals 0 acc
      rwa [← List.range_eq_range'] at this
    have hall : ∀ e ∈ (vals.map fun p => p.2.cells.toList), e.length = sz := by
      intro e he'
      obtain ⟨p, hp, rfl⟩ := List.mem_map.1 he'
      obtain ⟨i, hi⟩ := List.getElem?_of_mem hp
      simpa using (hv3 i p hi).2
    have hvl : vals.length = len := by simp [vals, hlen]
    rw [e1, fold_concat _ 0 _ hall (by simp [hbs, hvl])]
    have hfl := flat_length hall
    simp only [List.length_map, hvl] at hfl
    unfold spl
    rw [List.drop_of_length_le (by rw [hfl, Array.length_toList, hbs]; omega)]
    simp
  have hrl : res.size = len * sz := by
    have := congrArg List.length hflat
    rw [flat_length (sz := sz) (by
      intro e he'
      obtain ⟨p, hp, rfl⟩ := List.mem_map.1 he'
      obtain ⟨i, hi⟩ := List.getElem?_of_mem hp
      simpa using (hv3 i p hi).2)] at this
    simpa [vals, hlen] using this
  refine ⟨.slice (some ⟨w.heap.size, 0, none⟩) len len, w.alloc (.cells res e), ?_, ?_⟩
  · have hbig' : ¬ (len * sz > 2 ^ 24) := by omega
    by_cases hz0 : len * sz = 0
    · simp only [base, hz0, if_true] at hres
      simp only [Instr.buildSlice, Sem.run_bind, run_underlying (elT_und he), Result.andThen_ok, szT_run hsz, Sem.run_ite, if_neg hbig', hz0, if_true, Sem.run_pure, hpm, hres]
      simp [newRow]
    · simp only [base, if_neg hz0] at hres
      simp only [Instr.buildSlice, Sem.run_bind, run_underlying (elT_und he), Result.andThen_ok, szT_run hsz, Sem.run_ite, if_neg hbig', if_neg hz0, hzr, Sem.run_pure, hpm, hres]
      simp [newRow]
  · have hll : len ≤ len * sz := Nat.le_mul_of_pos_right _ hpos
    have hm : len ≤ maxLen := by simp only [maxLen]; omega
    have := h.newRow hd hdn e sz k (cells := res) (xs := xs) len (by omega) hm hrl (by omega) h2 (fun i j e' x he' hx => by
      have hi := (List.getElem?_eq_some_iff.1 he').1
      have hj := (List.getElem?_eq_some_iff.1 hx).1
      rw [h2 e' (List.mem_of_getElem? he')] at hj
      have hp : parts.toList[i]? = some (parts.toList[i]'(by omega)) := List.getElem?_eq_getElem (by omega)
      have hrep := h4 i j _ e' x hp he' hx
      have hg : res.getD (i * sz + j) Go.undef = (res.toList[i * sz + j]?).getD Go.undef := by simp [Array.getD_eq_getD_getElem?]
      rw [hg, hflat, flat_get (sz := sz) (by
        intro e he'
        obtain ⟨p, hp, rfl⟩ := List.mem_map.1 he'
        obtain ⟨i, hi⟩ := List.getElem?_of_mem hp
        simpa using (hv3 i p hi).2) hj]
      simp only [vals, List.map_map, List.getElem?_map, hp, Option.map_some, Option.bind_some, Function.comp]
      simpa [Array.getD_eq_getD_getElem?] using hrep)
    rw [hxl] at this
    exact this

end
end Go.PS
/- PS10: append, and forgetting a name's mentions. -/
namespace Go.PS
open Go Go.RowKit

def killT (m : Nat) (T : List (Nat × PV)) : List (Nat × PV) := T.map fun p => (p.1, if p.2.men m then .undef else p.2)
def Res.kill (m : Nat) : Res → Res
  | .blk ty cs => .blk ty (cs.map fun x => if x.men m then .undef else x)
  | .iter mn n seen => if mn == m then .junk else .iter mn n seen
  | r => r
def killM (m : Nat) (M : List (Nat × Res)) : List (Nat × Res) := M.map fun p => (p.1, p.2.kill m)
def StL.kill (s : StL) (m : Nat) : StL := ⟨killT m s.T, killM m s.M⟩

theorem getT_kill (m : Nat) : ∀ (T : List (Nat × PV)) (t : Nat), getT (killT m T) t = if (getT T t).men m then .undef else getT T t
  | [], t => by simp [killT, getT, PV.men]
  | (k, p) :: T, t => by
    have ih := getT_kill m T t
    by_cases e : k = t
    · simp [killT, getT, e]
    · simp only [killT] at ih
      simp [killT, getT, e, ih]

theorem getM_kill (m : Nat) : ∀ (M : List (Nat × Res)) (t : Nat), getM (killM m M) t = (getM M t).kill m
  | [], t => by simp [killM, getM, Res.kill]
  | (k, p) :: M, t => by
    simp only [killM, List.map_cons, getM]
    by_cases e : k = t
    · rw [if_pos e, if_pos e]
    · rw [if_neg e, if_neg e]; exact getM_kill m M t

theorem killT_men (m : Nat) : ∀ (T : List (Nat × PV)), (killT m T).all (fun p => !p.2.men m) = true
  | [] => rfl
  | (k, p) :: T => by
    simp only [killT, List.map_cons, List.all_cons, Bool.and_eq_true]
    refine ⟨?_, killT_men m T⟩
    cases h : p.men m <;> simp [h, PV.men]

theorem menL_kill (m : Nat) : ∀ (cs : List PV), PV.menL m (cs.map fun x => if x.men m then .undef else x) = false
  | [] => rfl
  | x :: cs => by
    simp only [List.map_cons, PV.menL, menL_kill m cs, Bool.or_false]
    cases h : x.men m <;> simp [h, PV.men]

theorem killM_men (m : Nat) : ∀ (M : List (Nat × Res)), (killM m M).all (fun p => !p.2.men m) = true
  | [] => rfl
  | (k, p) :: M => by
    simp only [killM, List.map_cons, List.all_cons, Bool.and_eq_true]
    refine ⟨?_, killM_men m M⟩
    cases p with
    | iter mn n seen =>
      simp only [Res.kill]
      cases h : mn == m <;> simp [Res.men, h]
    | _ => simp [Res.kill, Res.men, menL_kill]

section
variable {P : Program} {w0 : Base} {F0 : Nat → Prop} {n : Nat} {s : StL} {a : Act} {w : World} {φ : Nat → Value} {fp : Nat → Nat → Prop}

theorem SimX.kill (h : SimX w0 F0 n s a w φ fp) (m : Nat) : SimX w0 F0 n (s.kill m) a w φ fp := by
  refine ⟨fun q => ?_, h.disj, h.old, fun t => ?_, h.evo, h.size, h.dfr, h.fix⟩
  · show ResRep _ _ _ (getM (killM m s.M) q) _ _
    rw [getM_kill]
    have := h.res q
    revert this
    generalize getM s.M q = r
    intro this
    cases r with
    | dead => exact this
    | row => exact this
    | tab => exact this
    | junk => trivial
    | iter mn n seen =>
      simp only [Res.kill]
      split
      · trivial
      · exact this
    | blk ty cs =>
      obtain ⟨g, vs, hv, hF, hh, hs, hr⟩ := this
      refine ⟨g, vs, hv, hF, hh, by simp [hs], fun j x hx => ?_⟩
      rw [List.getElem?_map] at hx
      obtain ⟨y, hy, rfl⟩ := Option.map_eq_some_iff.1 hx
      split
      · exact .undef _
      · exact hr j y hy
  · show PVRep _ _ _ (getT (killT m s.T) t) _
    rw [getT_kill]
    split
    · exact .undef _
    · exact h.tmp t

/-- A name's row is replaced: its old block may have been written, what is new may lie in a new block. -/
theorem SimX.regrow (h : SimX w0 F0 n s a w φ fp) {m : Nat} (hm6 : m < 1000000) (hT : s.T.all (fun p => !p.2.men m) = true) (hM : s.M.all (fun p => !p.2.men m) = true) {w' : World} {v' : Value} {r' : Res} {F' : Nat → Prop}
    (ho : w'.os = w.os) (ht : w'.tape = w.tape) (hout : w'.output = w.output) (hsz : w.heap.size ≤ w'.heap.size) (hblk : ∀ g, g < w.heap.size → ¬ fp m g → w'.heap[g]? = w.heap[g]?)
    (hF' : ∀ g, F' g → (fp m g ∨ w.heap.size ≤ g) ∧ g < w'.heap.size)
    (hr : ∀ φ' fp', (∀ k g, Stb w0 w fp k g → Stb w0 w' fp' k g) → (∀ k g, Stb w0 w fp k g → w'.heap[g]? = w.heap[g]?) → ResRep w' φ' (Stb w0 w' fp') r' v' F') :
    ∃ φ' fp', SimX w0 F0 n ⟨s.T, (m, r') :: s.M⟩ a w' φ' fp' ∧ φ' m = v' := by
  let φ' : Nat → Value := fun q => if q = m then v' else φ q
  let fp' : Nat → Nat → Prop := fun q g => if q = m then F' g else fp q g
  have hne : ∀ q, q ≠ m → φ' q = φ q := fun q hq => by simp [φ', hq]
  have hS : ∀ k g, Stb w0 w fp k g → Stb w0 w' fp' k g := by
    intro k g hg
    refine ⟨Nat.lt_of_lt_of_le hg.1 hsz, fun q hq => ?_, hg.2.2⟩
    simp only [fp'] at hq
    by_cases e : q = m
    · rw [if_pos e] at hq
      rcases (hF' g hq).1 with h1 | h1
      · exact hg.2.1 m h1
      · have := hg.1; omega
    · rw [if_neg e] at hq; exact hg.2.1 q hq
  have hSc : ∀ k g, Stb w0 w fp k g → w'.heap[g]? = w.heap[g]? := fun k g hg => hblk g hg.1 (hg.2.1 m)
  refine ⟨φ', fp', ⟨fun q => ?_, fun q q' g h1 h2 => ?_, fun q g hq => ?_, fun t => ?_, ?_, h.size, h.dfr, fun q hq => (hne q (by omega)).trans (h.fix q hq)⟩, by simp [φ']⟩
  · show ResRep _ _ _ (getM ((m, r') :: s.M) q) _ _
    simp only [getM]
    by_cases e : m = q
    · subst e
      rw [if_pos rfl]
      have e1 : fp' m = F' := by funext g; simp [fp']
      have e2 : φ' m = v' := by simp [φ']
      rw [e1, e2]
      exact hr φ' fp' hS hSc
    · rw [if_neg e]
      have e1 : fp' q = fp q := by funext g; simp [fp', Ne.symm e]
      rw [e1, hne q (Ne.symm e)]
      refine ((h.res q).keep (fun g hg => hblk g (h.old q g hg).1 fun hm => e (h.disj m q g hm hg)) hSc hS).rename fun q' hq' => hne q' ?_
      rintro rfl
      have := getM_men hM q
      rw [this] at hq'; cases hq'
  · simp only [fp'] at h1 h2
    by_cases e1 : q = m <;> by_cases e2 : q' = m
    · rw [e1, e2]
    · rw [if_pos e1] at h1; rw [if_neg e2] at h2
      rcases (hF' g h1).1 with h3 | h3
      · exact absurd (h.disj q' m g h2 h3) e2
      · have := (h.old q' g h2).1; omega
    · rw [if_neg e1] at h1; rw [if_pos e2] at h2
      rcases (hF' g h2).1 with h3 | h3
      · exact absurd (h.disj q m g h1 h3) e1
      · have := (h.old q g h1).1; omega
    · rw [if_neg e1] at h1; rw [if_neg e2] at h2
      exact h.disj q q' g h1 h2
  · simp only [fp'] at hq
    by_cases e1 : q = m
    · rw [if_pos e1] at hq
      obtain ⟨h3, h4⟩ := hF' g hq
      refine ⟨h4, ?_⟩
      rcases h3 with h3 | h3
      · exact (h.old m g h3).2
      · have := h.evo.size; exact .inr (by omega)
    · rw [if_neg e1] at hq
      have := h.old q g hq
      exact ⟨by omega, this.2⟩
  · refine ((h.tmp t).mono hSc hS).rename fun q' hq' => hne q' ?_
    rintro rfl
    have := getT_men hT t
    rw [this] at hq'; cases hq'
  · refine ⟨ho.trans h.evo.os, ht.trans h.evo.tape, hout.trans h.evo.output, Nat.le_trans h.evo.size hsz, fun g hg hF => ?_⟩
    refine (hblk g (Nat.lt_of_lt_of_le hg h.evo.size) fun hm => ?_).trans (h.evo.block g hg hF)
    rcases (h.old m g hm).2 with h1 | h1
    · exact hF h1
    · omega

/-- What is appended. -/
def srcPV (s : StL) (sz : Nat) : PV → Option (Kind × List (List TL))
  | .t k (.sl _ sz' ys) => if sz' = sz ∧ ys.all (fun e => e.all TL.leaf) = true then some (k, ys) else none
  | .t _ (.v (.slice none 0 0)) => some (.fz, [])
  | .osl m => match getM s.M m with
    | .row _ sz' k ys => if sz' = sz ∧ ys.all (fun e => e.all TL.leaf) = true then some (k, ys) else none
    | _ => none
  | .osv m sz'' lo len => match getM s.M m with
    | .row _ sz' k ys => if sz' = sz ∧ sz'' = sz ∧ 0 < len ∧ lo + len ≤ ys.length ∧ ys.all (fun e => e.all TL.leaf) = true then some (k, (ys.drop lo).take len) else none
    | _ => none
  | _ => none

theorem idx_div {sz p len : Nat} (hsz : 0 < sz) (h : p < len * sz) : p / sz < len ∧ p % sz < sz ∧ p = p / sz * sz + p % sz :=
  ⟨Nat.div_lt_of_lt_mul (by rw [Nat.mul_comm]; exact h), Nat.mod_lt _ hsz, by have := Nat.div_add_mod p sz; rw [Nat.mul_comm]; exact this.symm⟩

theorem cells_one {S : Nat → Prop} {sz : Nat} {ys : List (List TL)} {news : List Value} (hsz : 0 < sz) (hl : ∀ e ∈ ys, e.length = sz) (hleaf : ys.all (fun e => e.all TL.leaf) = true) (hn : news.length = ys.length * sz)
    (hr : ∀ (i j : Nat) (e : List TL) (x : TL), ys[i]? = some e → e[j]? = some x → TRep w S x (news.getD (i * sz + j) Go.undef)) : ∀ u ∈ news, u.oneCell' = true := by
  intro u hu
  obtain ⟨p, hp⟩ := List.getElem?_of_mem hu
  have hlt := (List.getElem?_eq_some_iff.1 hp).1
  obtain ⟨h1, h2, h3⟩ := idx_div (p := p) (len := ys.length) hsz (by omega)
  have he : ys[p / sz]? = some ys[p / sz] := List.getElem?_eq_getElem h1
  have hel := hl _ (List.mem_of_getElem? he)
  have hx : (ys[p / sz])[p % sz]? = some (ys[p / sz])[p % sz] := List.getElem?_eq_getElem (by omega)
  have := hr _ _ _ _ he hx
  rw [← h3, List.getD_eq_getElem?_getD, hp] at this
  refine this.leaf_one ?_
  have h5 := List.all_eq_true.1 hleaf _ (List.mem_of_getElem? he)
  exact List.all_eq_true.1 h5 _ (List.mem_of_getElem? hx)

theorem srcPV_rep (h : SimX w0 F0 n s a w φ fp) {sz : Nat} (hsz : 0 < sz) {p : PV} {u : Value} {k : Kind} {ys : List (List TL)} (hu : PVRep w φ (Stb w0 w fp) p u) (hq : srcPV s sz p = some (k, ys)) :
    ∃ ao c, u = .slice ao ys.length c ∧ ys.length ≤ 140737488355328 ∧ (∀ e ∈ ys, e.length = sz) ∧ (ys = [] ∨ ∃ A, ao = some A) ∧
      ∃ news : List Value, news.length = ys.length * sz ∧ (∀ A, ao = some A → ∀ j v, news[j]? = some v → w.cell? (A.add j) = some v) ∧ (∀ u ∈ news, u.oneCell' = true) ∧
        ∀ (i j : Nat) (e : List TL) (x : TL), ys[i]? = some e → e[j]? = some x → TRep w (Stb w0 w fp k) x (news.getD (i * sz + j) Go.undef) := by
  unfold srcPV at hq
  split at hq
  · rename_i k' f sz' ys'
    split at hq
    · rename_i hc
      obtain ⟨rfl, hleaf⟩ := hc
      cases hq
      cases hu.t_inv with
      | @sl _ _ _ ao cap g hcap ht hnn hnil hbd ha hlen hrep =>
      rcases ha with rfl | ⟨b, o, rfl, hb, hc⟩
      · refine ⟨ao, cap, rfl, hbd, hlen, .inl rfl, [], by simp, fun A _ j v hv => by simp at hv, fun u hu => by simp at hu, fun i j e x he => by simp at he⟩
      · have hnews : ∀ (i j : Nat) (e : List TL) (x : TL), ys[i]? = some e → e[j]? = some x → TRep w (Stb w0 w fp k) x (((List.range (ys.length * sz')).map fun p => g (p / sz') (p % sz')).getD (i * sz' + j) Go.undef) := by
          intro i j e x he hx
          have hi := (List.getElem?_eq_some_iff.1 he).1
          have hj := (List.getElem?_eq_some_iff.1 hx).1
          rw [hlen e (List.mem_of_getElem? he)] at hj
          have hmul : (i + 1) * sz' ≤ ys.length * sz' := Nat.mul_le_mul_right _ hi
          rw [Nat.add_mul] at hmul
          rw [List.getD_eq_getElem?_getD, List.getElem?_map, List.getElem?_range (by omega)]
          have e1 : (i * sz' + j) / sz' = i := by rw [Nat.mul_comm, Nat.mul_add_div hsz, Nat.div_eq_of_lt hj, Nat.add_zero]
          have e2 : (i * sz' + j) % sz' = j := by rw [Nat.mul_comm, Nat.mul_add_mod]; exact Nat.mod_eq_of_lt hj
          simp only [Option.map_some, Option.getD_some, e1, e2]
          exact hrep i j e x he hx
        refine ⟨_, cap, rfl, hbd, hlen, .inr ⟨_, rfl⟩, (List.range (ys.length * sz')).map fun p => g (p / sz') (p % sz'), by simp, fun A hA j v hv => ?_, cells_one hsz hlen hleaf (by simp) hnews, hnews⟩
        cases hA
        rw [List.getElem?_map] at hv
        obtain ⟨q, hq, rfl⟩ := Option.map_eq_some_iff.1 hv
        obtain ⟨hlt, rfl⟩ := List.getElem?_eq_some_iff.1 hq
        simp only [List.length_range] at hlt
        obtain ⟨h1, h2, h3⟩ := idx_div hsz hlt
        simp only [List.getElem_range]
        rw [addr_add]
        have := hc _ _ h1 h2
        rwa [← h3] at this
    · cases hq
  · cases hq
    have := hu.t_inv.v_inv
    exact ⟨none, 0, this, by simp, by simp, .inl rfl, [], by simp, fun A hA => (by cases hA), fun u hu => by simp at hu, fun i j e x he => by simp at he⟩
  · rename_i m
    split at hq
    · rename_i ty sz' k' ys' hM
      split at hq
      · rename_i hc
        obtain ⟨rfl, hleaf⟩ := hc
        cases hq
        cases hu with
        | @osl _ len cap ao hφ =>
        have hres := h.res m
        rw [hM] at hres
        obtain ⟨cells, hown, hbd, hlen, hrep⟩ := hres
        rw [hφ] at hown
        rcases hown with ⟨hown, hF⟩ | ⟨rfl, ⟨ao', hv⟩, _⟩
        · rcases hown.2 with ⟨hv, hz⟩ | ⟨g, cap', cur, hv, _⟩
          · cases hv
            have hy : ys = [] := List.eq_nil_of_length_eq_zero hz
            subst hy
            exact ⟨none, 0, rfl, by simp, by simp, .inl rfl, [], by simp, fun A hA => (by cases hA), fun u hu => by simp at hu, fun i j e x he => by simp at he⟩
          · cases hv
            refine ⟨_, _, rfl, hbd, hlen, .inr ⟨_, rfl⟩, cells, hown.1, fun A hA j v hv => ?_, cells_one hsz hlen hleaf hown.1 hrep, hrep⟩
            cases hA
            exact hown.cells (g := g) rfl j v hv
        · cases hv
          exact ⟨ao, 0, rfl, by simp, by simp, .inl rfl, [], by simp, fun A hA j v hv => by simp at hv, fun u hu => by simp at hu, fun i j e x he => by simp at he⟩
      · cases hq
    · cases hq
  · rename_i m sz'' lo len
    split at hq
    · rename_i ty sz' k' ys' hM
      split at hq
      · rename_i hc
        obtain ⟨rfl, rfl, hlen0, hle, hleaf⟩ := hc
        cases hq
        cases hu with
        | @osv _ _ _ _ g l c cap hφ hcap =>
        have hres := h.res m
        rw [hM] at hres
        obtain ⟨cells, hown, hbd, hlen, hrep⟩ := hres
        rw [hφ] at hown
        obtain ⟨hown, hF⟩ := hown.resolve_right (by rintro ⟨rfl, _⟩; simp at hle; omega)
        have hl : ((ys'.drop lo).take len).length = len := by rw [List.length_take, List.length_drop]; omega
        have hmem : ∀ e ∈ (ys'.drop lo).take len, e ∈ ys' := fun e he => List.mem_of_mem_drop (List.mem_of_mem_take he)
        have hget : ∀ i e, ((ys'.drop lo).take len)[i]? = some e → ys'[lo + i]? = some e := by
          intro i e hi
          rw [List.getElem?_take] at hi
          split at hi
          · rwa [List.getElem?_drop] at hi
          · cases hi
        have hleaf2 : ((ys'.drop lo).take len).all (fun e => e.all TL.leaf) = true := by
          rw [List.all_eq_true] at hleaf ⊢
          exact fun e he => hleaf e (hmem e he)
        have hmul : (lo + len) * sz'' ≤ ys'.length * sz'' := Nat.mul_le_mul_right _ hle
        rw [Nat.add_mul] at hmul
        have hnl : ((cells.drop (lo * sz'')).take (len * sz'')).length = ((ys'.drop lo).take len).length * sz'' := by
          rw [hl, List.length_take, List.length_drop, hown.1]
          omega
        have hrep2 : ∀ (i j : Nat) (e : List TL) (x : TL), ((ys'.drop lo).take len)[i]? = some e → e[j]? = some x → TRep w (Stb w0 w fp k) x (((cells.drop (lo * sz'')).take (len * sz'')).getD (i * sz'' + j) Go.undef) := by
          intro i j e x he hx
          have hi := (List.getElem?_eq_some_iff.1 he).1
          rw [hl] at hi
          have hj := (List.getElem?_eq_some_iff.1 hx).1
          rw [hlen e (hmem e (List.mem_of_getElem? he))] at hj
          have h1 := hrep (lo + i) j e x (hget i e he) hx
          have hmul2 : (i + 1) * sz'' ≤ len * sz'' := Nat.mul_le_mul_right _ hi
          rw [Nat.add_mul] at hmul2
          rw [List.getD_eq_getElem?_getD, List.getElem?_take, if_pos (by omega), List.getElem?_drop]
          rw [List.getD_eq_getElem?_getD, Nat.add_mul, Nat.add_assoc] at h1
          exact h1
        refine ⟨_, _, by rw [hl], by rw [hl]; omega, fun e he => hlen e (hmem e he), .inr ⟨_, rfl⟩, (cells.drop (lo * sz'')).take (len * sz''), hnl, fun A hA j v hv => ?_, cells_one hsz (fun e he => hlen e (hmem e he)) hleaf2 hnl hrep2, hrep2⟩
        cases hA
        rw [List.getElem?_take] at hv
        split at hv
        · rw [List.getElem?_drop] at hv
          have := hown.cells (g := g) rfl (lo * sz'' + j) v hv
          rw [addr_add] at this ⊢
          simpa using this
        · cases hv
      · cases hq
    · cases hq
  · cases hq

/-- Nothing is appended. -/
theorem run_append_zero {t e : Nat} (ht : P.underlying t = some (.slice e)) {sz : Nat} (hs : szT P e = some sz) (ty : Nat) (b : Option Addr) (len cap : Nat) (hle : len ≤ cap) (b' : Option Addr) (c : Nat) (w : World) :
    (Builtin.append_ #[t, t] ty #[.slice b len cap, .slice b' 0 c]).run P w = .ok (.slice b len cap) w := by
  have hf : (Builtin.firstCells sz 0 (.slice b' 0 c)).run P w = .ok #[] w := by
    cases b' <;> simp [Builtin.firstCells, loadCells, loadCellsFrom]
  cases b <;> simp [Builtin.append_, run_underlying ht, szT_run hs, Builtin.lenOf, hle, hf, storeCells]

/-- An append to a row of our own. -/
theorem append_own {t e sz by_ : Nat} {z : Value} (ht : P.underlying t = some (.slice e)) (i : TypeInfo) (hi : P.info? e = some i) (hz : i.zero = some z) (hsize : i.size = sz) (hby : i.bytes = by_) (hzs : z.cells.size = sz) (hsz : 0 < sz) (hbp : 0 < by_) (ty : Nat)
    {v : Value} {nx : Nat} {cells : List Value} (hv : w.ownsRow 0 e sz v nx cells)
    {ao : Option Addr} {m c : Nat} {news : List Value} (hao : m = 0 ∨ ∃ A, ao = some A) (hl : news.length = m * sz) (hn : ∀ A, ao = some A → ∀ j u, news[j]? = some u → w.cell? (A.add j) = some u) (h1 : ∀ u ∈ news, u.oneCell' = true)
    (hbytes : (nx + m) * by_ ≤ 140737488355328) :
    ∃ v' w', (Builtin.append_ #[t, t] ty #[v, .slice ao m c]).run P w = .ok v' w' ∧ w'.ownsRow 0 e sz v' (nx + m) (cells ++ news) ∧ w.grownBy w' v.ownBlock ∧ (v'.ownBlock = v.ownBlock ∨ v'.ownBlock = some w.heap.size) := by
  have hlen : nx + m ≤ 140737488355328 := Nat.le_trans (Nat.le_mul_of_pos_right _ hbp) hbytes
  have hszT : szT P e = some sz := by simp [szT, hi, hsize]
  rcases Nat.eq_zero_or_pos m with rfl | hm
  · have hnews : news = [] := List.eq_nil_of_length_eq_zero (by simpa using hl)
    subst hnews
    obtain ⟨b, cap, rfl, hle⟩ : ∃ b cap, v = .slice b nx cap ∧ nx ≤ cap := by
      rcases hv.2 with ⟨rfl, h0⟩ | ⟨g, cap, cur, rfl, _, _, hc, _⟩
      · exact ⟨none, 0, by rw [h0], by omega⟩
      · exact ⟨_, cap, rfl, hc⟩
    exact ⟨_, w, run_append_zero ht hszT ty b nx cap hle ao c w, by simpa using hv, ⟨rfl, rfl, rfl, Nat.le_refl _, fun _ _ _ => rfl⟩, .inl rfl⟩
  · obtain ⟨A, rfl⟩ := hao.resolve_left (by omega)
    obtain ⟨v', w', hr, h2, h3, _, h5⟩ := run_append_own_at (P := P) w 0 t ty e i z sz by_ ht hi hz hsize hby hzs hsz v nx cells hv A m c news hl (hn A rfl) h1 (by simp only [maxLen]; omega) hbytes (Nat.zero_le _)
    exact ⟨v', w', hr, h2, h3, h5⟩

/-- An append to a slice without room. -/
theorem append_grow {t e sz by_ : Nat} {z : Value} (ht : P.underlying t = some (.slice e)) (i : TypeInfo) (hi : P.info? e = some i) (hz : i.zero = some z) (hsize : i.size = sz) (hby : i.bytes = by_) (hzs : z.cells.size = sz) (hsz : 0 < sz) (hbp : 0 < by_) (ty : Nat)
    {bo : Option Addr} {nx : Nat} {cells : List Value} (hbo : nx = 0 ∨ ∃ B, bo = some B) (hcl : cells.length = nx * sz) (hcells : ∀ B, bo = some B → ∀ j u, cells[j]? = some u → w.cell? (B.add j) = some u)
    {A : Addr} {m c : Nat} {news : List Value} (hm : 0 < m) (hl : news.length = m * sz) (hn : ∀ j u, news[j]? = some u → w.cell? (A.add j) = some u)
    (hbytes : (nx + m) * by_ ≤ 140737488355328) :
    ∃ v' w', (Builtin.append_ #[t, t] ty #[.slice bo nx nx, .slice (some A) m c]).run P w = .ok v' w' ∧ w'.ownsRow 0 e sz v' (nx + m) (cells ++ news) ∧ w.grownBy w' none ∧ v'.ownBlock = some w.heap.size := by
  subst hsize
  subst hby
  have hlen : nx + m ≤ 140737488355328 := Nat.le_trans (Nat.le_mul_of_pos_right _ hbp) hbytes
  have hge := grownCap_ge w (nx + m) nx e
  have hcm : grownCap w (nx + m) nx e ≤ maxLen := grownCap_le_maxLen w (nx + m) nx e (by simp only [maxLen]; omega)
  have fin : (w.drew.alloc (.cells (cells.toArray ++ news.toArray ++ Builtin.zeroCells z.cells (grownCap w (nx + m) nx e - (nx + m))) e)).ownsRow 0 e i.size
      (.slice (some ⟨w.heap.size, 0, none⟩) (nx + m) (grownCap w (nx + m) nx e)) (nx + m) (cells ++ news) := by
    have hlen' : (cells ++ news).length = (nx + m) * i.size := by rw [List.length_append, hcl, hl, Nat.add_mul]
    refine ⟨hlen', .inr ⟨w.heap.size, _, _, rfl, Nat.zero_le _, heap_alloc_new w.drew _, hge, hcm, ?_, ?_⟩⟩
    · simp only [Array.size_append, List.size_toArray, size_zeroCells, hzs, hl, hcl, ← Nat.add_mul]
      congr 1
      omega
    · simp only [Array.toList_append, List.append_assoc]
      rw [← List.append_assoc, ← hlen']
      exact List.take_left
  have hgr : w.grownBy (w.drew.alloc (.cells (cells.toArray ++ news.toArray ++ Builtin.zeroCells z.cells (grownCap w (nx + m) nx e - (nx + m))) e)) none :=
    ⟨rfl, rfl, rfl, by simp, fun k hk _ => Below.heap_alloc w.drew _ k hk⟩
  cases bo with
  | some B =>
    have hr := run_append_grow (P := P) w t ty e i z ht hi hz B nx nx cells hcl (hcells B rfl) A m c news hl hn (by omega) (by omega) (growslice_fits (by omega) hbytes)
    exact ⟨_, _, hr, fin, hgr, rfl⟩
  | none =>
    obtain rfl : nx = 0 := hbo.resolve_right (by simp)
    have hc : cells = [] := List.eq_nil_of_length_eq_zero (by simpa using hcl)
    subst hc
    have hr := run_append_nil (P := P) w t ty e i z ht hi hz A m c news hl hn hm (by omega) (by simp only [Nat.zero_add] at hbytes; omega)
    simp only [Nat.zero_add, List.nil_append, Array.empty_append] at fin hgr ⊢
    exact ⟨_, _, hr, fin, hgr, rfl⟩

end
end Go.PS
/- PS11: one operation's step of a state, and that the machine takes it. -/
namespace Go.PS
open Go Go.RowKit

/-- A slice held against nil. -/
def nilCmp (P : Program) (t : Nat) (p q : PV) : Option Bool :=
  match p, q with
  | .t _ (.sl f _ xs), .t _ (.v (.slice none 0 0)) => if isSlT P t = true ∧ (f = .nn ∨ xs.isEmpty = false) then some false else none
  | .t _ (.v (.slice none 0 0)), .t _ (.v (.slice none 0 0)) => if isSlT P t = true then some true else none
  | _, _ => none

def valOp (P : Program) (s : StL) : Op → Option PV
  | .build t parts => if fldsOk P t = true then buildPV P s t parts.toList else none
  | .binOp op t x y ty => match opVal P s (.binOp op t x y ty) with
    | some q => some q
    | none => match nilCmp P t (ev s x) (ev s y) with
      | none => none
      | some b => match op with
        | .eql => some (.t .fz (.v (.bool b)))
        | .neq => some (.t .fz (.v (.bool !b)))
        | _ => none
  | op => opVal P s op

/-- append(x, y). -/
def appendPV (P : Program) (d : Nat) (s : StL) (t : Nat) (x y : PV) : Option StL :=
  match elT P t with
  | none => none
  | some e => match szT P e, zT P e, byT P e with
    | some sz, some z, some b =>
      if 0 < sz ∧ 0 < b ∧ z.length = sz then
        match srcPV s sz y with
        | none => none
        | some (k, ys) =>
          match x with
          | .osl m => match getM s.M m with
            | .row e' sz' k' xs => if e' = e ∧ sz' = sz ∧ m < 1000000 ∧ (xs.length + ys.length) * b ≤ 140737488355328 then
                some ⟨(d, .osl m) :: (s.kill m).T, (m, .row e sz (k'.join k) (xs ++ ys)) :: (s.kill m).M⟩ else none
            | _ => none
          | .t _ (.v (.slice none 0 0)) => if s.free d = true ∧ ys.length * b ≤ 140737488355328 then some ⟨(d, .osl d) :: s.T, (d, .row e sz k ys) :: s.M⟩ else none
          | .t k' (.sl .tight sz' []) => if s.free d = true ∧ sz' = sz ∧ ys.length * b ≤ 140737488355328 then some ⟨(d, .osl d) :: s.T, (d, .row e sz k ys) :: s.M⟩ else none
          | .t k' (.sl .tight sz' xs) => if s.free d = true ∧ sz' = sz ∧ ys.isEmpty = false ∧ (xs.length + ys.length) * b ≤ 140737488355328 ∧ xs.all (fun e => e.all TL.leaf) = true then
              some ⟨(d, .osl d) :: s.T, (d, .row e sz (k'.join k) (xs ++ ys)) :: s.M⟩ else none
          | _ => none
      else none
    | _, _, _ => none

/-- A row of our own is cut. -/
def shrinkPV (P : Program) (d : Nat) (s : StL) (t : Nat) (x hi : PV) : Option StL :=
  match x, hi with
  | .osl m, .t _ (.v (.int _ i)) => match getM s.M m with
    | .row e sz k xs => if slT P t = some sz ∧ 0 ≤ i ∧ i ≤ xs.length ∧ m < 1000000 then
        some ⟨(d, .osl m) :: (s.kill m).T, (m, .row e sz k (xs.take i.toNat)) :: (s.kill m).M⟩ else none
    | _ => none
  | _, _ => none

/-- Where a copy goes. -/
def dstPV (s : StL) : PV → Option (Nat × Nat × Nat)
  | .osl m => match getM s.M m with
    | .row _ _ _ xs => some (m, 0, xs.length)
    | _ => none
  | .osv m sz lo len => if sz = 1 then some (m, lo, len) else none
  | _ => none
/-- copy(x, y). -/
def copyPV (P : Program) (d : Nat) (s : StL) (t : Nat) (x y : PV) : Option StL :=
  if slT P t = some 1 then
    match srcPV s 1 y, dstPV s x with
    | some (k, ys), some (m, lo, len) => match getM s.M m with
      | .row e sz k' xs => if sz = 1 ∧ lo + len ≤ xs.length then
          some ⟨(d, .t .fz (.v (.int .i64 ((min ys.length len : Nat) : Int)))) :: s.T, (m, .row e sz (k'.join k) (spl xs lo (ys.take (min ys.length len)))) :: s.M⟩ else none
      | _ => none
    | _, _ => none
  else none
/-- A range over a map of our own begins. -/
def rngPV (P : Program) (d : Nat) (s : StL) (t : Nat) (x : PV) : Option StL :=
  match x with
  | .omp m => match getM s.M m with
    | .tab k es => if s.free d = true ∧ (mapT P t).isSome = true then some ⟨(d, .ptr d 0) :: s.T, (d, .iter m es.length []) :: s.M⟩ else none
    | _ => none
  | _ => none
def newOp (P : Program) (d : Nat) (s : StL) : Op → Option StL
  | .box t x => match cellsPV (ev s x) with
    | some cs => if s.free d = true then some ⟨(d, .ptr d 0) :: s.T, (d, .blk t cs) :: s.M⟩ else none
    | none => none
  | .alloc t => match zT P t with
    | some z => if s.free d = true then some ⟨(d, .ptr d 0) :: s.T, (d, .blk t (z.map fun c => PV.t .fz (.v c))) :: s.M⟩ else none
    | none => none
  | .buildSlice t len parts => match elT P t with
    | some e => match szT P e, zT P e with
      | some sz, some z => if s.free d = true ∧ z.length = sz ∧ len = parts.size ∧ len * sz ≤ 16777216 ∧ 0 < sz then
          match rowPV s sz 0 parts.toList with
          | some (k, xs) => some ⟨(d, .osl d) :: s.T, (d, .row e sz k xs) :: s.M⟩
          | none => none
        else none
      | _, _ => none
    | none => none
  | .makeSlice t l c => match elT P t, ev s l, ev s c with
    | some e, .t _ (.v (.int _ l)), .t _ (.v (.int _ c)) => match szT P e, zT P e, byT P e with
      | some sz, some z, some b => if s.free d = true ∧ z.length = sz ∧ 0 < sz ∧ 0 ≤ l ∧ l ≤ c ∧ c ≤ 140737488355328 ∧ (b : Int) * c ≤ 281474976710656 then
          some ⟨(d, .osl d) :: s.T, (d, .row e sz .fz (List.replicate l.toNat (z.map TL.v))) :: s.M⟩ else none
      | _, _, _ => none
    | _, _, _ => none
  | .call c => match c.callee, c.args.toList, c.argTypes.toList with
    | .builtin .append, [x, y], [t, t'] => if t = t' then appendPV P d s t (ev s x) (ev s y) else none
    | .builtin .copy, [x, y], [t, t'] => if t = t' then copyPV P d s t (ev s x) (ev s y) else none
    | _, _, _ => none
  | .slice t x lo hi mx => if lo.isNone && mx.isNone then (match hi with
    | some hi => shrinkPV P d s t (ev s x) (ev s hi)
    | none => none) else none
  | .makeMap t r => if r.isNone ∧ s.free d = true then some ⟨(d, .omp d) :: s.T, (d, .tab .fz []) :: s.M⟩ else none
  | .range t x => rngPV P d s t (ev s x)
  | _ => none

/-- One operation. -/
def step (P : Program) (n : Nat) (dst : Option Nat) (s : StL) (op : Op) : Option StL :=
  match dst with
  | none => match op with
    | .store t p v => storePV P s t (ev s p) (ev s v)
    | .mapUpdate t m k v => updPV P s t (ev s m) (ev s k) (ev s v)
    | _ => none
  | some d => if d < n then
      match valOp P s op with
      | some q => some ⟨(d, q) :: s.T, s.M⟩
      | none => newOp P d s op
    else none

section
variable {P : Program} {w0 : Base} {F0 : Nat → Prop} {n : Nat} {s : StL} {a : Act} {w : World} {φ : Nat → Value} {fp : Nat → Nat → Prop}

theorem nilCmp_rep {St : Kind → Nat → Prop} {t : Nat} {p q : PV} {u v : Value} {b : Bool} (hu : PVRep w φ St p u) (hv : PVRep w φ St q v) (hq : nilCmp P t p q = some b) :
    ∃ e ao l c, P.underlying t = some (.slice e) ∧ u = .slice ao l c ∧ v = .slice none 0 0 ∧ b = ao.isNone := by
  unfold nilCmp at hq
  split at hq
  · rename_i k f sz xs k'
    split at hq
    · rename_i hc
      cases hq
      obtain ⟨e, he⟩ := isSlT_run hc.1
      have h2 := hv.t_inv.v_inv
      cases hu.t_inv with
      | sl g hcap ht hnn hnil hbd ha hlen hrep =>
        rename_i ao cap
        refine ⟨e, ao, _, _, he, rfl, h2, ?_⟩
        rcases hc.2 with hf | hx
        · have := hnn hf
          cases ao <;> simp_all
        · obtain ⟨b, o, rfl, _⟩ := ha.resolve_left (by rintro rfl; simp at hx)
          rfl
    · cases hq
  · split at hq
    · rename_i hc
      cases hq
      obtain ⟨e, he⟩ := isSlT_run hc
      exact ⟨e, none, 0, 0, he, hu.t_inv.v_inv, hv.t_inv.v_inv, rfl⟩
    · cases hq
  · cases hq

theorem valOp_run (h : SimX w0 F0 n s a w φ fp) {o : Oper} {q : PV} (hq : valOp P s o.op = some q) :
    ∃ v, (execOp a.eval o).run P w = .ok (.value v) w ∧ PVRep w φ (Stb w0 w fp) q v := by
  unfold valOp at hq
  split at hq
  · rename_i t parts ho
    split at hq
    · rename_i hok
      obtain ⟨v, hv, hr⟩ := buildPV_run h hok hq
      refine ⟨v, ?_, hr⟩
      simp only [execOp, ho]
      exact run_value hv
    · cases hq
  · rename_i op t x y ty ho
    split at hq
    · rename_i q' hq'
      cases hq
      rw [← ho] at hq'
      exact opVal_run h hq'
    · have hx := h.ev x
      have hy := h.ev y
      cases hb : nilCmp P t (ev s x) (ev s y) with
      | none => simp only [hb] at hq; cases hq
      | some b =>
        simp only [hb] at hq
        obtain ⟨e, ao, l, c, he, h1, h2, h3⟩ := nilCmp_rep hx hy hb
        have heql := Lib.run_eql_slice_nil (P := P) w t e ao l c 0 0 he
        split at hq
        · cases hq
          refine ⟨.bool b, ?_, .t (.v _)⟩
          simp only [execOp, ho, h1, h2]
          refine run_value ?_
          rw [Sem.run_bind]
          have hg : (eqGuard .eql t x y (.slice ao l c) (.slice none 0 0)).run P w = .ok () w := by unfold eqGuard; rfl
          rw [hg, Result.andThen_ok, heql, h3]
        · cases hq
          refine ⟨.bool !b, ?_, .t (.v _)⟩
          simp only [execOp, ho, h1, h2]
          refine run_value ?_
          rw [Sem.run_bind]
          have hg : (eqGuard .neq t x y (.slice ao l c) (.slice none 0 0)).run P w = .ok () w := by unfold eqGuard; rfl
          rw [hg, Result.andThen_ok]
          simp only [binOp, Sem.run_bind, Sem.run_pure] at heql ⊢
          cases hr : (Op.equal t (.slice ao l c) (.slice none 0 0)).run P w with
          | ok x w2 =>
            rw [hr] at heql
            simp only [Result.andThen_ok, Result.ok.injEq, Value.bool.injEq] at heql ⊢
            obtain ⟨e1, e2⟩ := heql
            rw [e1, e2, h3]
            simp
          | halt x w2 => rw [hr] at heql; simp [Result.andThen] at heql
        · cases hq
  · exact opVal_run h hq

theorem byT_info {e b sz : Nat} {z : List Value} (hb : byT P e = some b) (hs : szT P e = some sz) (hz : zT P e = some z) :
    ∃ i zv, P.info? e = some i ∧ i.bytes = b ∧ i.size = sz ∧ i.zero = some zv ∧ zv.cells.toList = z := by
  unfold byT at hb
  unfold szT at hs
  unfold zT at hz
  obtain ⟨i, hi, rfl⟩ := Option.map_eq_some_iff.1 hb
  rw [hi] at hs hz
  simp only [Option.map_some, Option.some.injEq] at hs
  obtain ⟨zv, hzv, rfl⟩ := Option.map_eq_some_iff.1 hz
  simp only [Option.bind_some] at hzv
  exact ⟨i, zv, hi, rfl, hs, hzv, rfl⟩

/-- The relation behind an append to what name m holds, or will hold. -/
theorem append_sim (h : SimX w0 F0 n s a w φ fp) {d m e sz : Nat} {k k' : Kind} {xs ys : List (List TL)} {cells news : List Value} {v' : Value} {w' : World} (hdn : d < n) (hm6 : m < 1000000)
    (hT : s.T.all (fun p => !p.2.men m) = true) (hM : s.M.all (fun p => !p.2.men m) = true)
    (hcl : cells.length = xs.length * sz) (hlx : ∀ e ∈ xs, e.length = sz) (hly : ∀ e ∈ ys, e.length = sz) (hsz : 0 < sz)
    (hrx : ∀ (i j : Nat) (e : List TL) (x : TL), xs[i]? = some e → e[j]? = some x → TRep w (Stb w0 w fp k') x (cells.getD (i * sz + j) Go.undef))
    (hry : ∀ (i j : Nat) (e : List TL) (x : TL), ys[i]? = some e → e[j]? = some x → TRep w (Stb w0 w fp k) x (news.getD (i * sz + j) Go.undef))
    (hbd : xs.length + ys.length ≤ 140737488355328)
    (hres : w'.ownsRow 0 e sz v' (xs.length + ys.length) (cells ++ news)) (hgr : w.grownBy w' none ∨ ∃ v, w.grownBy w' v ∧ ∀ g, some g = v → fp m g)
    (hF : ∀ g, v'.ownBlock = some g → fp m g ∨ w.heap.size ≤ g) :
    Sim w0 F0 n ⟨(d, .osl m) :: s.T, (m, .row e sz (k'.join k) (xs ++ ys)) :: s.M⟩ (a.put (some d) v') w' := by
  obtain ⟨os_, tp_, ot_, sz_, hblk⟩ : w'.os = w.os ∧ w'.tape = w.tape ∧ w'.output = w.output ∧ w.heap.size ≤ w'.heap.size ∧ ∀ g, g < w.heap.size → ¬ fp m g → w'.heap[g]? = w.heap[g]? := by
    rcases hgr with hg | ⟨v, hg, hv⟩
    · exact ⟨hg.os, hg.tape, hg.output, hg.size, fun g h1 _ => hg.block g h1 (by simp)⟩
    · exact ⟨hg.os, hg.tape, hg.output, hg.size, fun g h1 h2 => hg.block g h1 fun e => h2 (hv g e)⟩
  obtain ⟨φ', fp', h', hv'⟩ := h.regrow hm6 hT hM (w' := w') (v' := v') (r' := .row e sz (k'.join k) (xs ++ ys)) (F' := fun g => v'.ownBlock = some g) os_ tp_ ot_ sz_ hblk
    (fun g hg => ⟨hF g hg, (hres.lt g hg).2⟩) (fun φ' fp' hS hSc => by
      refine ⟨cells ++ news, .inl ⟨by simpa using hres, fun g => Iff.rfl⟩, by simpa using hbd, fun e he => ?_, fun i j e x he hx => ?_⟩
      · rcases List.mem_append.1 he with he | he
        · exact hlx e he
        · exact hly e he
      · have hj : j < sz := by
          have h1 := (List.getElem?_eq_some_iff.1 hx).1
          have h2 : e.length = sz := by
            rcases List.mem_append.1 (List.mem_of_getElem? he) with he | he
            · exact hlx e he
            · exact hly e he
          omega
        by_cases hi : i < xs.length
        · rw [List.getElem?_append_left hi] at he
          have hmul : (i + 1) * sz ≤ xs.length * sz := Nat.mul_le_mul_right _ hi
          rw [Nat.add_mul] at hmul
          have := ((hrx i j e x he hx).mono (hSc _) (hS _)).join k
          rwa [List.getD_eq_getElem?_getD, List.getElem?_append_left (by omega), ← List.getD_eq_getElem?_getD]
        · rw [List.getElem?_append_right (by omega)] at he
          have hmul : xs.length * sz ≤ i * sz := Nat.mul_le_mul_right _ (by omega)
          have := ((hry (i - xs.length) j e x he hx).mono (hSc _) (hS _)).join k'
          rw [Kind.join_comm] at this
          rw [List.getD_eq_getElem?_getD, List.getElem?_append_right (by omega), ← List.getD_eq_getElem?_getD]
          have e1 : i * sz + j - cells.length = (i - xs.length) * sz + j := by rw [hcl, Nat.sub_mul]; omega
          rw [e1]
          exact this)
  obtain ⟨ao, l, c, hs⟩ : ∃ ao l c, v' = .slice ao l c := by
    rcases hres.2 with ⟨rfl, _⟩ | ⟨g, cap, cur, rfl, _⟩
    · exact ⟨_, _, _, rfl⟩
    · exact ⟨_, _, _, rfl⟩
  subst hs
  exact ⟨φ', fp', h'.put hdn (.osl hv')⟩

/-- An empty slice without room, adopted. -/
theorem adopt_sim (h : SimX w0 F0 n s a w φ fp) {d m e sz : Nat} {k : Kind} {ao : Option Addr} (hdn : d < n) (hm6 : m < 1000000) (hT : s.T.all (fun p => !p.2.men m) = true) (hM : s.M.all (fun p => !p.2.men m) = true) :
    Sim w0 F0 n ⟨(d, .osl m) :: s.T, (m, .row e sz k []) :: s.M⟩ (a.put (some d) (.slice ao 0 0)) w := by
  obtain ⟨φ', fp', h', hv'⟩ := h.regrow hm6 hT hM (w' := w) (v' := .slice ao 0 0) (r' := .row e sz k []) (F' := fun _ => False) rfl rfl rfl (Nat.le_refl _) (fun _ _ _ => rfl)
    (fun g hg => hg.elim) (fun φ' fp' hS hSc => ⟨[], .inr ⟨rfl, ⟨ao, rfl⟩, fun g hg => hg⟩, by simp, by simp, fun i j e x he => by simp at he⟩)
  exact ⟨φ', fp', h'.put hdn (.osl hv')⟩

theorem appendPV_run (h : SimX w0 F0 n s a w φ fp) {d t ty : Nat} {x y : PV} {u v : Value} {s' : StL} (hdn : d < n) (hx : PVRep w φ (Stb w0 w fp) x u) (hy : PVRep w φ (Stb w0 w fp) y v) (hq : appendPV P d s t x y = some s') :
    ∃ r w', (Builtin.append_ #[t, t] ty #[u, v]).run P w = .ok r w' ∧ Sim w0 F0 n s' (a.put (some d) r) w' := by
  unfold appendPV at hq
  split at hq
  · cases hq
  · rename_i e he
    have ht := elT_und he
    split at hq
    · rename_i sz z b hsz hz hb
      split at hq
      · rename_i hc0
        obtain ⟨hszp, hbp, hzl⟩ := hc0
        obtain ⟨i, zv, hi, hib, his, hiz, hzc⟩ := byT_info hb hsz hz
        have hzs : zv.cells.size = sz := by rw [← hzl, ← hzc]; simp
        split at hq
        · cases hq
        · rename_i k ys hsrc
          obtain ⟨ao, c, rfl, hyb, hly, hne, news, hnl, hnc, hn1, hry⟩ := srcPV_rep h hszp hy hsrc
          have hao : ys.length = 0 ∨ ∃ A, ao = some A := hne.imp (fun h => by simp [h]) id
          split at hq
          · -- a row of our own
            rename_i m
            split at hq
            · rename_i e' sz' k' xs hM
              split at hq
              · rename_i hc
                obtain ⟨rfl, rfl, hm6, hbytes⟩ := hc
                cases hq
                cases hx with
                | @osl _ len cap bo hφ =>
                have h1 := h.kill m
                have hres := h1.res m
                have hMk : getM (s.kill m).M m = .row e' sz' k' xs := by
                  show getM (killM m s.M) m = _
                  rw [getM_kill, hM]; rfl
                rw [hMk] at hres
                obtain ⟨cells, hown, hbd, hlen, hrep⟩ := hres
                rw [hφ] at hown
                have hbd' : xs.length + ys.length ≤ 140737488355328 := Nat.le_trans (Nat.le_mul_of_pos_right _ hbp) hbytes
                rcases hown with ⟨hown, hF⟩ | ⟨rfl, ⟨bo', hbo'⟩, hF⟩
                · obtain ⟨v', w', hr, ho, hg, hv'⟩ := append_own (P := P) ht i hi hiz his hib hzs hszp hbp ty hown hao hnl hnc hn1 hbytes
                  refine ⟨v', w', hr, append_sim h1 hdn hm6 (killT_men m s.T) (killM_men m s.M) hown.1 hlen hly hszp hrep hry hbd' ho (.inr ⟨_, hg, fun g hg' => (hF g).2 hg'.symm⟩) fun g hg' => ?_⟩
                  rcases hv' with e1 | e1
                  · rw [e1] at hg'; exact .inl ((hF g).2 hg')
                  · rw [e1] at hg'; cases hg'; exact .inr (Nat.le_refl _)
                · cases hbo'
                  rcases Nat.eq_zero_or_pos ys.length with hy0 | hy0
                  · have : ys = [] := List.eq_nil_of_length_eq_zero hy0
                    subst this
                    exact ⟨_, w, run_append_zero ht hsz ty bo 0 0 (Nat.le_refl _) ao c w, adopt_sim h1 hdn hm6 (killT_men m s.T) (killM_men m s.M)⟩
                  · obtain ⟨A, rfl⟩ := hao.resolve_left (by omega)
                    obtain ⟨v', w', hr, ho, hg, hv'⟩ := append_grow (P := P) (bo := bo) (cells := []) ht i hi hiz his hib hzs hszp hbp ty (.inl rfl) (by simp) (fun B _ j u hu => by simp at hu) hy0 hnl (hnc A rfl) (by simpa using hbytes)
                    refine ⟨v', w', hr, append_sim h1 hdn hm6 (xs := []) (cells := []) (killT_men m s.T) (killM_men m s.M) (by simp) (by simp) hly hszp (fun i j e x he => by simp at he) hry (by simpa using hbd') (by simpa using ho) (.inl hg) fun g hg' => ?_⟩
                    rw [hv'] at hg'; cases hg'; exact .inr (Nat.le_refl _)
              · cases hq
            · cases hq
          · -- nil
            split at hq
            · rename_i hc
              obtain ⟨hfree, hbytes⟩ := hc
              cases hq
              have hu := hx.t_inv.v_inv
              subst hu
              simp only [StL.free, Bool.and_eq_true] at hfree
              have hbd' : ys.length ≤ 140737488355328 := hyb
              rcases Nat.eq_zero_or_pos ys.length with hy0 | hy0
              · have : ys = [] := List.eq_nil_of_length_eq_zero hy0
                subst this
                exact ⟨_, w, run_append_zero ht hsz ty none 0 0 (Nat.le_refl _) ao c w, adopt_sim h hdn (of_decide_eq_true hfree.2.2) hfree.1.1 hfree.1.2⟩
              · obtain ⟨A, rfl⟩ := hao.resolve_left (by omega)
                obtain ⟨v', w', hr, ho, hg, hv'⟩ := append_grow (P := P) (bo := none) (cells := []) ht i hi hiz his hib hzs hszp hbp ty (.inl rfl) (by simp) (fun B _ j u hu => by simp at hu) hy0 hnl (hnc A rfl) (by simpa using hbytes)
                have := append_sim h hdn (of_decide_eq_true hfree.2.2) (k' := .fz) (xs := []) (cells := []) hfree.1.1 hfree.1.2 (by simp) (by simp) hly hszp (fun i j e x he => by simp at he) hry (by simpa using hbd') (by simpa using ho) (.inl hg) fun g hg' => by
                  rw [hv'] at hg'; cases hg'; exact .inr (Nat.le_refl _)
                refine ⟨v', w', hr, ?_⟩
                cases k <;> exact this
            · cases hq
          · -- an empty cut without room
            rename_i k' sz'
            split at hq
            · rename_i hc
              obtain ⟨hfree, rfl, hbytes⟩ := hc
              cases hq
              obtain ⟨bo, rfl⟩ : ∃ bo, u = .slice bo 0 0 := by
                generalize hxs : ([] : List (List TL)) = xs at hx
                cases hx.t_inv with
                | @sl _ _ _ bo cap g hcap ht' hnn hnil hbd ha hlen hrep =>
                  subst hxs
                  have := ht' rfl
                  exact ⟨bo, by rw [this]; rfl⟩
              simp only [StL.free, Bool.and_eq_true] at hfree
              rcases Nat.eq_zero_or_pos ys.length with hy0 | hy0
              · have : ys = [] := List.eq_nil_of_length_eq_zero hy0
                subst this
                exact ⟨_, w, run_append_zero ht hsz ty bo 0 0 (Nat.le_refl _) ao c w, adopt_sim h hdn (of_decide_eq_true hfree.2.2) hfree.1.1 hfree.1.2⟩
              · obtain ⟨A, rfl⟩ := hao.resolve_left (by omega)
                obtain ⟨v', w', hr, ho, hg, hv'⟩ := append_grow (P := P) (bo := bo) (cells := []) ht i hi hiz his hib hzs hszp hbp ty (.inl rfl) (by simp) (fun B _ j u hu => by simp at hu) hy0 hnl (hnc A rfl) (by simpa using hbytes)
                have := append_sim h hdn (of_decide_eq_true hfree.2.2) (k' := .fz) (xs := []) (cells := []) hfree.1.1 hfree.1.2 (by simp) (by simp) hly hszp (fun i j e x he => by simp at he) hry (by simpa using hyb) (by simpa using ho) (.inl hg) fun g hg' => by
                  rw [hv'] at hg'; cases hg'; exact .inr (Nat.le_refl _)
                refine ⟨v', w', hr, ?_⟩
                cases k <;> exact this
            · cases hq
          · -- a cut without room
            rename_i k' sz' xs hxne
            split at hq
            · rename_i hc
              obtain ⟨hfree, rfl, hyne, hbytes, hleafx⟩ := hc
              cases hq
              obtain ⟨bo, c', hu, hxb, hlx, hne', olds, hol, hoc, ho1, hrx⟩ := srcPV_rep h hszp (p := .t k' (.sl .tight sz' xs)) (k := k') (ys := xs) hx (by simp [srcPV]; simpa using hleafx)
              have hu' : u = .slice bo xs.length xs.length := by
                cases hx.t_inv with
                | @sl _ _ _ bo' cap g hcap ht' hnn hnil hbd ha hlen hrep =>
                  have := ht' rfl
                  cases hu
                  rw [this]
              subst hu'
              simp only [StL.free, Bool.and_eq_true] at hfree
              have hy0 : 0 < ys.length := by
                cases ys with
                | nil => simp at hyne
                | cons => simp
              obtain ⟨A, rfl⟩ := hao.resolve_left (by omega)
              obtain ⟨v', w', hr, ho, hg, hv'⟩ := append_grow (P := P) (bo := bo) (cells := olds) ht i hi hiz his hib hzs hszp hbp ty (hne'.imp (fun h => by simp [h]) id) hol hoc hy0 hnl (hnc A rfl) hbytes
              have hbd' : xs.length + ys.length ≤ 140737488355328 := Nat.le_trans (Nat.le_mul_of_pos_right _ hbp) hbytes
              refine ⟨v', w', hr, append_sim h hdn (of_decide_eq_true hfree.2.2) hfree.1.1 hfree.1.2 hol hlx hly hszp hrx hry hbd' ho (.inl hg) fun g hg' => ?_⟩
              rw [hv'] at hg'; cases hg'; exact .inr (Nat.le_refl _)
            · cases hq
          · cases hq
      · cases hq
    · cases hq

theorem shrinkPV_run (h : SimX w0 F0 n s a w φ fp) {d t : Nat} {x hi : PV} {u v : Value} {s' : StL} (hdn : d < n) (hx : PVRep w φ (Stb w0 w fp) x u) (hy : PVRep w φ (Stb w0 w fp) hi v) (hq : shrinkPV P d s t x hi = some s') :
    ∃ r, (Instr.sliceAt t u none (some v) none).run P w = .ok r w ∧ Sim w0 F0 n s' (a.put (some d) r) w := by
  unfold shrinkPV at hq
  split at hq
  · rename_i m k0 kk i
    split at hq
    · rename_i e sz k xs hM
      split at hq
      · rename_i hcond
        obtain ⟨hsl, h0, h1, hm6⟩ := hcond
        cases hq
        have hv := hy.t_inv.v_inv
        subst hv
        cases hx with
        | @osl _ len cap ao hφ =>
        have hres := h.res m
        rw [hM] at hres
        obtain ⟨cells, hown, hbd, hlen, hrep⟩ := hres
        rw [hφ] at hown
        unfold slT at hsl
        split at hsl
        · rename_i e' he'
          obtain ⟨j, rfl⟩ : ∃ j : Nat, i = j := ⟨i.toNat, by omega⟩
          have hj : j ≤ xs.length := by omega
          have key : len = xs.length ∧ xs.length ≤ cap ∧ (ao = none ∨ (∃ g, ao = some ⟨g, 0, none⟩) ∨ cap = 0) := by
            rcases hown with ⟨hown, hF⟩ | ⟨rfl, ⟨ao', hv⟩, _⟩
            · rcases hown.2 with ⟨hv, hz⟩ | ⟨g, cap', cur, hv, _, hh, hle, _, _⟩
              · cases hv
                exact ⟨hz.symm, by omega, .inl rfl⟩
              · cases hv
                exact ⟨rfl, hle, .inr (.inl ⟨g, rfl⟩)⟩
            · cases hv
              exact ⟨rfl, Nat.le_refl _, .inr (.inr rfl)⟩
          obtain ⟨hl, hcap, hao⟩ := key
          subst hl
          have hbr : (Instr.sliceBounds true xs.length cap none (some (.int kk (j : Int))) none).run P w = .ok (0, j, cap) w := by
            have := run_sliceBound_ok (P := P) (code := .sliceAcap) (x := .int kk (j : Int)) rfl (by omega) (show ((j : Nat) : Int) ≤ ((cap : Nat) : Int) by omega) w
            simp [Instr.sliceBounds, this]
          have hrun : (Instr.sliceAt t (.slice ao xs.length cap) none (some (.int kk (j : Int))) none).run P w = .ok (.slice ao j cap) w := by
            simp only [Instr.sliceAt, Instr.slice, Option.map, run_underlying he', hbr, szT_run hsl, Sem.run_bind, Result.andThen_ok, Sem.run_pure, Nat.zero_mul, Nat.sub_zero]
            rcases hao with rfl | ⟨g, rfl⟩ | rfl
            · simp
            · by_cases e0 : cap = 0
              · simp [e0]
              · simp [e0, addr_add]
            · simp
          refine ⟨_, hrun, ?_⟩
          have hk := h.kill m
          obtain ⟨φ', fp', h', hv'⟩ := hk.regrow hm6 (killT_men m s.T) (killM_men m s.M) (w' := w) (v' := .slice ao j cap) (r' := .row e sz k (xs.take j)) (F' := fp m) rfl rfl rfl (Nat.le_refl _) (fun _ _ _ => rfl)
            (fun g hg => ⟨.inl hg, (h.old m g hg).1⟩) (fun φ' fp' hS hSc => by
              refine ⟨cells.take (j * sz), ?_, by simp; omega, fun e he => hlen e (List.mem_of_mem_take he), fun i' j' e x he hx => ?_⟩
              · rw [List.length_take, Nat.min_eq_left hj]
                rcases hown with ⟨hown, hF⟩ | ⟨rfl, ⟨ao', hv⟩, hF⟩
                · refine .inl ⟨⟨?_, ?_⟩, fun g => (hF g).trans (by cases ao <;> rfl)⟩
                  · rw [List.length_take, hown.1, Nat.min_eq_left (Nat.mul_le_mul_right _ hj)]
                  · rcases hown.2 with ⟨hv, hz⟩ | ⟨g, cap', cur, hv, hb, hh, hle, hm, hs, ht⟩
                    · simp only [Value.slice.injEq] at hv
                      obtain ⟨rfl, _, rfl⟩ := hv
                      have : j = 0 := by omega
                      subst this
                      exact .inl ⟨rfl, rfl⟩
                    · simp only [Value.slice.injEq] at hv
                      obtain ⟨rfl, _, rfl⟩ := hv
                      refine .inr ⟨g, cap, cur, rfl, hb, hh, by omega, hm, hs, ?_⟩
                      rw [← ht, List.take_take, Nat.min_eq_left (Nat.mul_le_mul_right _ hj)]
                · simp only [Value.slice.injEq] at hv
                  obtain ⟨_, _, rfl⟩ := hv
                  have : j = 0 := by simpa using hj
                  subst this
                  exact .inr ⟨by simp, ⟨ao, rfl⟩, hF⟩
              · have hi' : i' < j := by
                  have := (List.getElem?_eq_some_iff.1 he).1
                  rw [List.length_take] at this
                  omega
                rw [List.getElem?_take_of_lt hi'] at he
                have hjl : j' < sz := by
                  have h1 := (List.getElem?_eq_some_iff.1 hx).1
                  have h2 := hlen e (List.mem_of_getElem? he)
                  omega
                have := (hrep i' j' e x he hx).mono (hSc _) (hS _)
                have hmul : (i' + 1) * sz ≤ j * sz := Nat.mul_le_mul_right _ hi'
                rw [Nat.add_mul] at hmul
                rwa [List.getD_eq_getElem?_getD, List.getElem?_take_of_lt (by omega), ← List.getD_eq_getElem?_getD])
          exact ⟨φ', fp', h'.put hdn (.osl hv')⟩
        · cases hsl
      · cases hq
    · cases hq
  · cases hq

theorem dstPV_rep (h : SimX w0 F0 n s a w φ fp) {x : PV} {u : Value} {m lo len : Nat} {e : Nat} {k : Kind} {xs : List (List TL)} (hu : PVRep w φ (Stb w0 w fp) x u) (hq : dstPV s x = some (m, lo, len)) (hM : getM s.M m = .row e 1 k xs) (hle : lo + len ≤ xs.length) :
    ∃ ao cap, u = .slice ao len cap ∧ (0 < len → ∃ g l c, φ m = .slice (some ⟨g, 0, none⟩) l c ∧ ao = some ⟨g, lo, none⟩) := by
  unfold dstPV at hq
  split at hq
  · rename_i m'
    split at hq
    · rename_i ty sz k' xs' hM'
      cases hq
      rw [hM'] at hM
      cases hM
      cases hu with
      | @osl _ len cap ao hφ =>
      have hres := h.res m
      rw [hM'] at hres
      obtain ⟨cells, hown, hbd, hlen, hrep⟩ := hres
      rw [hφ] at hown
      rcases hown with ⟨hown, hF⟩ | ⟨rfl, ⟨ao', hv⟩, _⟩
      · rcases hown.2 with ⟨hv, hz⟩ | ⟨g, cap', cur, hv, _⟩
        · cases hv
          exact ⟨none, 0, by rw [hz], fun hp => by omega⟩
        · cases hv
          exact ⟨_, _, rfl, fun _ => ⟨g, _, _, hφ, rfl⟩⟩
      · cases hv
        exact ⟨ao, 0, rfl, fun hp => by simp at hp⟩
    · cases hq
  · rename_i m' sz lo' len'
    split at hq
    · rename_i h1
      subst h1
      cases hq
      cases hu with
      | @osv _ _ _ _ g l c cap hφ hcap => exact ⟨_, _, rfl, fun _ => ⟨g, l, c, hφ, by rw [Nat.mul_one]⟩⟩
    · cases hq
  · cases hq

theorem copyPV_run (h : SimX w0 F0 n s a w φ fp) {d t ty : Nat} {x y : PV} {u v : Value} {s' : StL} (hdn : d < n) (hx : PVRep w φ (Stb w0 w fp) x u) (hy : PVRep w φ (Stb w0 w fp) y v) (hq : copyPV P d s t x y = some s') :
    ∃ r w', (Builtin.copy_ #[t, t] ty #[u, v]).run P w = .ok r w' ∧ Sim w0 F0 n s' (a.put (some d) r) w' := by
  unfold copyPV at hq
  split at hq
  · rename_i hsl
    split at hq
    · rename_i k ys m lo len hsrc hdst
      split at hq
      · rename_i e sz k' xs hM
        split at hq
        · rename_i hcond
          obtain ⟨rfl, hle⟩ := hcond
          cases hq
          unfold slT at hsl
          split at hsl
          · rename_i el hel
            have hsz1 : (P.info? el).map (·.size) = some 1 := hsl
            obtain ⟨ao, cp, rfl, hdp⟩ := dstPV_rep h hx hdst hM hle
            obtain ⟨bo, c2, rfl, hyb, hyl, hya, news, hnl, hnc, hn1, hnr⟩ := srcPV_rep h (by decide) hy hsrc
            rw [Nat.mul_one] at hnl
            have hres := h.res m
            rw [hM] at hres
            obtain ⟨cells, hown0, hbd, hlenx, hrep⟩ := hres
            rcases Nat.eq_zero_or_pos (min ys.length len) with hz | hp
            · have hrun := run_copy_none (P := P) w t t ty el ao bo len cp ys.length c2 hel hsz1 hz
              refine ⟨_, w, hrun, φ, fp, ?_⟩
              rw [hz]
              refine SimX.put (h.write rfl rfl rfl rfl (fun _ _ => rfl) fun hS hSc => ?_) hdn (.t (.v _))
              have hsp : spl xs lo (ys.take 0) = xs := by simp [spl]
              rw [hsp]
              exact ⟨cells, hown0, hbd, hlenx, fun i j e x he hx => (hrep i j e x he hx).join k⟩
            · obtain ⟨g, l, c, hφ, rfl⟩ := hdp (by omega)
              obtain ⟨A, rfl⟩ := hya.resolve_left (by rintro rfl; simp at hp)
              rw [hφ] at hown0
              obtain ⟨hown, hF⟩ := hown0.resolve_right (by rintro ⟨rfl, _⟩; simp at hle; omega)
              obtain ⟨hcl, hor⟩ := hown
              obtain ⟨g', cap', cur, hv', hb0, hh, hc1, hc2, hc3, htake⟩ := hor.resolve_left (by rintro ⟨h1, _⟩; cases h1)
              simp only [Value.slice.injEq, Option.some.injEq, Addr.mk.injEq, and_true] at hv'
              obtain ⟨rfl, rfl, rfl⟩ := hv'
              rw [Nat.mul_one] at hc3 hcl htake
              generalize hcq : min ys.length len = q at hp
              have hcsl : (news.take q).length = q := by rw [List.length_take]; omega
              have hrun := run_copy_row (P := P) w t t ty el g lo len cp A ys.length c2 cur e (news.take q) hel hsz1 hh (by rw [hcsl]; exact hcq.symm) (fun j v hv => by
                rw [List.getElem?_take] at hv
                split at hv
                · exact hnc A rfl j v hv
                · cases hv) (by rw [hcsl]; omega) (fun v hv => hn1 v (List.mem_of_mem_take hv))
              rw [show cur.toList.take lo ++ news.take q ++ cur.toList.drop (lo + (news.take q).length) = spl cur.toList lo (news.take q) from rfl] at hrun
              refine ⟨_, _, hrun, φ, fp, ?_⟩
              rw [hcsl]
              have hspl : lo + (news.take q).length ≤ cur.toList.length := by rw [hcsl]; simp; omega
              have hys : (ys.take q).length = q := by rw [List.length_take]; omega
              have hsplx : lo + (ys.take q).length ≤ xs.length := by omega
              refine SimX.put (h.write (w' := w.setRow g (spl cur.toList lo (news.take q)).toArray) rfl rfl rfl (by simp [World.setRow]) (fun r hr => setRow_other w g r _ (fun e => hr ((hF _).2 (by rw [e]; rfl)))) fun hS hSc => ?_) hdn (.t (.v _))
              refine ⟨(spl cur.toList lo (news.take q)).take xs.length, .inl ⟨⟨?_, .inr ⟨g, c, _, ?_, Nat.zero_le _, setRow_heap w g cur _ e _ hh, ?_, hc2, ?_, ?_⟩⟩, fun r => by rw [hφ]; exact hF r⟩, ?_, fun e he => ?_, fun i j e x he hx => ?_⟩
              · rw [List.length_take, spl_length hspl, spl_length hsplx]
                simp; omega
              · rw [hφ, spl_length hsplx]
              · rw [spl_length hsplx]; exact hc1
              · simp [spl_length hspl, hc3]
              · rw [spl_length hsplx, Nat.mul_one]
              · rw [spl_length hsplx]; exact hbd
              · obtain ⟨i, hi⟩ := List.getElem?_of_mem he
                rw [spl_get hsplx] at hi
                split at hi
                · exact hyl e (List.mem_of_mem_take (List.mem_of_getElem? hi))
                · exact hlenx e (List.mem_of_getElem? hi)
              · have hil : i < xs.length := by
                  have := (List.getElem?_eq_some_iff.1 he).1
                  rwa [spl_length hsplx] at this
                have hnew : ((spl cur.toList lo (news.take q)).take xs.length).getD (i * 1 + j) Go.undef = ((spl cur.toList lo (news.take q))[i * 1 + j]?).getD Go.undef := by
                  have hj : j < 1 := by
                    have h1 := (List.getElem?_eq_some_iff.1 hx).1
                    rw [spl_get hsplx] at he
                    split at he
                    · have := hyl e (List.mem_of_mem_take (List.mem_of_getElem? he)); omega
                    · have := hlenx e (List.mem_of_getElem? he); omega
                  rw [List.getD_eq_getElem?_getD, List.getElem?_take, if_pos (by omega)]
                rw [hnew, spl_get hspl, hcsl]
                rw [spl_get hsplx, hys] at he
                have hj : j = 0 := by
                  have h1 := (List.getElem?_eq_some_iff.1 hx).1
                  split at he
                  · have := hyl e (List.mem_of_mem_take (List.mem_of_getElem? he)); omega
                  · have := hlenx e (List.mem_of_getElem? he); omega
                subst hj
                rw [Nat.mul_one, Nat.add_zero]
                split at he
                · rename_i hc
                  rw [if_pos hc, List.getElem?_take, if_pos (by omega)]
                  rw [List.getElem?_take, if_pos (by omega)] at he
                  have h0 := ((hnr _ _ _ _ he hx).mono (hSc _) (hS _)).join k'
                  rw [Kind.join_comm, Nat.mul_one, Nat.add_zero, List.getD_eq_getElem?_getD] at h0
                  exact h0
                · rename_i hc
                  rw [if_neg hc]
                  have h0 := ((hrep _ _ _ _ he hx).mono (hSc _) (hS _)).join k
                  rw [Nat.mul_one, Nat.add_zero, ← htake, List.getD_eq_getElem?_getD, List.getElem?_take, if_pos hil] at h0
                  exact h0
          · cases hsl
        · cases hq
      · cases hq
    · cases hq
  · cases hq

theorem newOp_run (h : SimX w0 F0 n s a w φ fp) {o : Oper} {d : Nat} (hd : o.dst = some d) (hdn : d < n) {s' : StL} (hq : newOp P d s o.op = some s') :
    ∃ v w', (execOp a.eval o).run P w = .ok (.value v) w' ∧ Sim w0 F0 n s' (a.put (some d) v) w' := by
  cases ho : o.op <;> simp only [ho, newOp, reduceCtorEq] at hq
  case box t x =>
    split at hq
    · rename_i cs hcs
      split at hq
      · rename_i hf
        cases hq
        obtain ⟨hs, hc⟩ := cellsPV_rep (h.ev x) hcs
        refine ⟨_, _, ?_, h.newBlk hf hdn t hs (cellsPV_men hcs (ev_men hf x)) hc⟩
        simp only [execOp, ho]
        exact run_value (by simp [Instr.box, run_newVar])
      · cases hq
    · cases hq
  case alloc t =>
    split at hq
    · rename_i z hz
      split at hq
      · rename_i hf
        cases hq
        obtain ⟨zv, hzr, hzc⟩ := zT_run hz w
        refine ⟨_, _, ?_, h.newBlk hf hdn t (vs := zv.cells) (by rw [← hzc]; simp) (by
          have e1 : z.map (fun c => PV.t .fz (.v c)) = (z.map TL.v).map (PV.t .fz) := by simp
          rw [e1]
          exact menL_map _ _ _) fun j x hx => ?_⟩
        · simp only [execOp, ho]
          exact run_value (by simp [Instr.alloc, hzr, run_newVar])
        · rw [List.getElem?_map] at hx
          obtain ⟨c, hc, rfl⟩ := Option.map_eq_some_iff.1 hx
          rw [← hzc, Array.getElem?_toList] at hc
          rw [Array.getD_eq_getD_getElem?, hc]
          exact .t (.v _)
      · cases hq
    · cases hq
  case buildSlice t len parts =>
    split at hq
    · rename_i e he
      split at hq
      · rename_i sz z hsz hz
        split at hq
        · rename_i hc
          obtain ⟨h1, h2, h3, h4, h5⟩ := hc
          split at hq
          · rename_i k xs hrow
            cases hq
            obtain ⟨v, w', hr, hs⟩ := buildSlice_run h h1 hdn he hsz hz h2 h3 h4 h5 hrow
            refine ⟨v, w', ?_, hs⟩
            simp only [execOp, ho]
            exact run_value hr
          · cases hq
        · cases hq
      · cases hq
    · cases hq
  case makeSlice t l c =>
    split at hq
    · rename_i e k1 kk1 l' k2 kk2 c' he hl hc
      split at hq
      · rename_i sz z b hsz hz hb
        split at hq
        · rename_i hcond
          obtain ⟨h1, h2, h3, h4, h5, h6, h7⟩ := hcond
          cases hq
          obtain ⟨i, zv, hi, hib, his, hiz, hzc⟩ := byT_info hb hsz hz
          have hl' := h.ev l
          rw [hl] at hl'
          have hc' := h.ev c
          rw [hc] at hc'
          have hr := run_make (P := P) w t e i zv (elT_und he) hi hiz kk1 kk2 l' c' h4 h5 (by rw [hib]; exact h7) (by omega)
          have hzs : zv.cells.size = sz := by rw [← h2, ← hzc]; simp
          rw [his] at hr
          refine ⟨.slice (some ⟨w.heap.size, 0, none⟩) l'.toNat c'.toNat, w.alloc (.cells (madeCells zv.cells (c'.toNat * sz)) e), ?_, ?_⟩
          rotate_left
          · have := h.newRow h1 hdn e sz .fz (cells := madeCells zv.cells (c'.toNat * sz)) (xs := List.replicate l'.toNat (z.map TL.v)) c'.toNat (by simp; omega) (by simp only [maxLen]; omega) (by simp [size_madeCells]) (by simp; omega) (fun e he => by
              rw [List.eq_of_mem_replicate he]; simpa using h2) (fun i j e x he hx => by
              have he' := List.mem_of_getElem? he
              rw [List.eq_of_mem_replicate he', List.getElem?_map] at hx
              obtain ⟨y, hy, rfl⟩ := Option.map_eq_some_iff.1 hx
              have hj : j < sz := by have := (List.getElem?_eq_some_iff.1 hy).1; omega
              have hi' : i < l'.toNat := by have := (List.getElem?_eq_some_iff.1 he).1; simpa using this
              have hmul : (i + 1) * sz ≤ c'.toNat * sz := Nat.mul_le_mul_right _ (by omega)
              rw [Nat.add_mul] at hmul
              have hg : (madeCells zv.cells (c'.toNat * sz)).getD (i * sz + j) Go.undef = y := by
                have e2 : (i * sz + j) % zv.cells.size = j := by rw [hzs, Nat.mul_comm, Nat.mul_add_mod]; exact Nat.mod_eq_of_lt hj
                have hlt : i * sz + j < c'.toNat * sz := by omega
                rw [← hzc, Array.getElem?_toList] at hy
                simp [madeCells, Array.getD_eq_getD_getElem?, hlt, e2, hy, getElem!_def]
              rw [hg]
              exact .v _)
            rw [List.length_replicate] at this
            exact this
          · simp only [execOp, ho, hl'.t_inv.v_inv, hc'.t_inv.v_inv]
            exact run_value hr
        · cases hq
      · cases hq
    · cases hq
  case call c =>
    split at hq
    · rename_i x y t t' hcal hargs hts
      split at hq
      · rename_i htt
        subst htt
        obtain ⟨r, w', hr, hs⟩ := appendPV_run (ty := o.type) h hdn (h.ev x) (h.ev y) hq
        refine ⟨r, w', ?_, hs⟩
        have ha : c.args = #[x, y] := by rw [← hargs]
        have hta : c.argTypes = #[t, t] := by rw [← hts]
        simp only [execOp, ho, resolve, hcal, Sem.run_bind, Sem.run_pure, Result.andThen_ok, invoke, builtin, ha, hta]
        simp [hr]
      · cases hq
    · rename_i x y t t' hcal hargs hts
      split at hq
      · rename_i htt
        subst htt
        obtain ⟨r, w', hr, hs⟩ := copyPV_run (ty := o.type) h hdn (h.ev x) (h.ev y) hq
        refine ⟨r, w', ?_, hs⟩
        have ha : c.args = #[x, y] := by rw [← hargs]
        have hta : c.argTypes = #[t, t] := by rw [← hts]
        simp only [execOp, ho, resolve, hcal, Sem.run_bind, Sem.run_pure, Result.andThen_ok, invoke, builtin, ha, hta]
        simp [hr]
      · cases hq
    · cases hq
  case slice t x lo hi mx =>
    split at hq
    · rename_i hc
      split at hq
      · rename_i hi'
        obtain ⟨r, hr, hs⟩ := shrinkPV_run h hdn (h.ev x) (h.ev hi') hq
        simp only [Bool.and_eq_true, Option.isNone_iff_eq_none] at hc
        obtain ⟨rfl, rfl⟩ := hc
        refine ⟨r, w, ?_, hs⟩
        simp only [execOp, ho]
        exact run_value hr
      · cases hq
    · cases hq
  case makeMap t r =>
    split at hq
    · rename_i hc
      cases hq
      obtain ⟨hr, hf⟩ := hc
      have hr' : r = none := by simpa using hr
      subst hr'
      obtain ⟨φ', fp', h', hne, hv⟩ := h.new hf (o := .map #[] 0) (r := .tab .fz []) (v := .map (some w.heap.size)) (fun φ' fp' hne hv hS hSc =>
        ⟨w.heap.size, #[], rfl, fun g => Iff.rfl, (Go.MapKept.heap_alloc w _).1, trivial⟩)
      refine ⟨_, _, ?_, φ', fp', h'.put hdn (.omp hv)⟩
      simp only [execOp, ho]
      exact run_value (by simp [Instr.makeMap, Result.andThen])
    · cases hq
  case range t x =>
    unfold rngPV at hq
    split at hq
    · rename_i m hx
      split at hq
      · rename_i k es hM
        split at hq
        · rename_i hc
          cases hq
          obtain ⟨hf, hmt⟩ := hc
          obtain ⟨⟨kt, et⟩, hmt'⟩ := Option.isSome_iff_exists.1 hmt
          have hund := mapT_und hmt'
          have hxr := h.ev x
          rw [hx] at hxr
          generalize hu : a.eval x = u at hxr
          cases hxr with
          | @omp _ r hφ =>
          have hres := h.res m
          rw [hM] at hres
          obtain ⟨r', ents, hv', hF, hh, he⟩ := hres
          rw [hφ] at hv'
          cases hv'
          have hmd : m ≠ d := by
            rintro rfl
            simp only [StL.free, Bool.and_eq_true] at hf
            have := Res.eq_dead hf.2.1
            rw [this] at hM
            cases hM
          obtain ⟨φ', fp', h', hne, hv⟩ := h.new hf (o := .mapIter (some r') es.length #[] es.length) (r := .iter m es.length []) (v := .pointer (some ⟨w.heap.size, 0, none⟩)) (fun φ' fp' hne hv hS hSc =>
            ⟨w.heap.size, r', #[], rfl, fun g => Iff.rfl, (hne m hmd).trans hφ, (Go.MapKept.heap_alloc w _).1, rfl, by simp⟩)
          refine ⟨_, _, ?_, φ', fp', h'.put hdn (.ptr hv)⟩
          simp only [execOp, ho]
          exact run_value (by simp [Instr.range, hu, run_underlying hund, Go.MapKept.run_getObj_map hh, Result.andThen])
        · cases hq
      · cases hq
    · cases hq

theorem step_run (h : Sim w0 F0 n s a w) {o : Oper} {s' : StL} (hq : step P n o.dst s o.op = some s') :
    ∃ nx v w', (execOp a.eval o).run P w = .ok nx w' ∧ (nx = .value v ∨ (nx = .skip ∧ v = Go.undef)) ∧ Sim w0 F0 n s' (a.put o.dst v) w' := by
  obtain ⟨φ, fp, h⟩ := h
  unfold step at hq
  split at hq
  · rename_i hd
    split at hq
    · rename_i t p v ho
      obtain ⟨w', hr, hs⟩ := storePV_run h (h.ev p) (h.ev v) hq
      refine ⟨.skip, Go.undef, w', ?_, .inr ⟨rfl, rfl⟩, φ, fp, ?_⟩
      · simp only [execOp, ho]
        simp [hr]
      · rw [hd]; exact hs
    · rename_i t m k v ho
      obtain ⟨w', hr, hs⟩ := updPV_run h (h.ev m) (h.ev k) (h.ev v) hq
      refine ⟨.skip, Go.undef, w', ?_, .inr ⟨rfl, rfl⟩, φ, fp, ?_⟩
      · simp only [execOp, ho]
        simp [hr]
      · rw [hd]; exact hs
    · cases hq
  · rename_i d hd
    split at hq
    · rename_i hdn
      split at hq
      · rename_i q hv
        cases hq
        obtain ⟨v, hr, hp⟩ := valOp_run h hv
        exact ⟨.value v, v, w, hr, .inl rfl, φ, fp, by rw [hd]; exact h.put hdn hp⟩
      · obtain ⟨v, w', hr, hs⟩ := newOp_run h hd hdn hq
        exact ⟨.value v, v, w', hr, .inl rfl, by rw [hd]; exact hs⟩
    · cases hq

end
end Go.PS
/- PS12: contracts, and what a call leaves of a state. -/
namespace Go.PS
open Go Go.RowKit

def Callable (P : Program) (f : FuncId) : Prop := ∃ fn c, P.funcs[f]? = some fn ∧ fn.body = some c ∧ (fn.name == "runtime.NumGoroutine") = false

/-- Called with these trees the function returns r; Mr: the memory that r owns. -/
def PCall (P : Program) (f : FuncId) (args : List TL) (r : PV) (Mr : List (Nat × Res)) : Prop :=
  Callable P f ∧ ∀ (w : World) (S : Nat → Prop) (vals : Array Value), (∀ g, S g → g < w.heap.size) → vals.size = args.length → (∀ (i : Nat) (x : TL), args[i]? = some x → TRep w S x (vals.getD i Go.undef)) →
    Calls P f vals w fun e w' => ∃ v φ fp, e = .returned v ∧ Evo (fun _ => False) w w' ∧ (∀ m, ResRep w' φ (Stb (Base.of w S) w' fp) (getM Mr m) (φ m) (fp m)) ∧ (∀ m m' g, fp m g → fp m' g → m = m') ∧
      (∀ m g, fp m g → w.heap.size ≤ g ∧ g < w'.heap.size) ∧ PVRep w' φ (Stb (Base.of w S) w' fp) r v

/-- Lent to a callee: memory of our own as a tree. -/
def optL (f : PV → Option (Bool × TL)) : List PV → Option (Bool × List TL)
  | [] => some (false, [])
  | p :: l => match f p, optL f l with
    | some (b, x), some (b', xs) => some (b || b', x :: xs)
    | _, _ => none

def lendPV : Nat → StL → PV → Option (Bool × TL)
  | 0, _, _ => none
  | d + 1, s, p => match p with
    | .t _ x => some (false, x)
    | .osl m => match getM s.M m with
      | .row _ sz _ xs => some (true, .sl .any sz xs)
      | _ => none
    | .ptr m off => match getM s.M m with
      | .blk _ cs => match optL (lendPV d s) cs with
        | some (_, xs) => some (true, .rp xs off)
        | none => none
      | _ => none
    | .clo f caps => match optL (lendPV d s) caps with
      | some (b, xs) => some (b, .clo f xs)
      | none => none
    | .agg cs => match optL (lendPV d s) cs with
      | some (b, xs) => some (b, .agg xs)
      | none => none
    | _ => none

mutual
def PV.noRo : PV → Bool
  | .t .fz _ => true
  | .t .ro (.v _) => true
  | .t .ro _ => false
  | .clo _ caps => PV.noRoL caps
  | .agg cs => PV.noRoL cs
  | .tup cs => PV.noRoL cs
  | _ => true
def PV.noRoL : List PV → Bool
  | [] => true
  | x :: l => PV.noRo x && PV.noRoL l
end

def Res.noRo : Res → Bool
  | .dead => true
  | .blk _ cs => PV.noRoL cs
  | .row _ _ k _ => k == .fz
  | .tab k _ => k == .fz
  | .iter _ _ _ => true
  | .junk => true

mutual
def PV.ren (d : Nat) : PV → PV
  | .t k x => .t k x
  | .ptr _ off => .ptr d off
  | .osl _ => .osl d
  | .oep _ sz i off => .oep d sz i off
  | .omp _ => .omp d
  | .osv _ sz lo len => .osv d sz lo len
  | .clo f caps => .clo f (PV.renL d caps)
  | .agg cs => .agg (PV.renL d cs)
  | .tup cs => .tup (PV.renL d cs)
  | .undef => .undef
def PV.renL (d : Nat) : List PV → List PV
  | [] => []
  | x :: l => PV.ren d x :: PV.renL d l
end

def Res.ren (d : Nat) : Res → Res
  | .dead => .dead
  | .blk ty cs => .blk ty (PV.renL d cs)
  | .row ty sz k xs => .row ty sz k xs
  | .tab k es => .tab k es
  | .iter _ n seen => .iter d n seen
  | .junk => .junk

mutual
/-- Does it name nothing but z? (b = false: nothing at all?) -/
def PV.nm (b : Bool) (z : Nat) : PV → Bool
  | .t _ _ => true
  | .ptr n _ => b && n == z
  | .osl n => b && n == z
  | .oep n _ _ _ => b && n == z
  | .omp n => b && n == z
  | .osv n _ _ _ => b && n == z
  | .clo _ caps => PV.nmL b z caps
  | .agg cs => PV.nmL b z cs
  | .tup cs => PV.nmL b z cs
  | .undef => true
def PV.nmL (b : Bool) (z : Nat) : List PV → Bool
  | [] => true
  | x :: l => PV.nm b z x && PV.nmL b z l
end

def Res.nm (b : Bool) (z : Nat) : Res → Bool
  | .blk _ cs => PV.nmL b z cs
  | .iter mn _ _ => b && mn == z
  | _ => true

theorem PV.renL_get (d : Nat) : ∀ (l : List PV) (j : Nat), (PV.renL d l)[j]? = (l[j]?).map (PV.ren d)
  | [], j => by simp [PV.renL]
  | x :: l, 0 => by simp [PV.renL]
  | x :: l, j + 1 => by simp [PV.renL, PV.renL_get d l j]

theorem PV.renL_length (d : Nat) : ∀ (l : List PV), (PV.renL d l).length = l.length
  | [] => rfl
  | x :: l => by simp [PV.renL, PV.renL_length d l]

theorem PV.nmL_get {b : Bool} {z : Nat} : ∀ {l : List PV} {j : Nat} {x : PV}, PV.nmL b z l = true → l[j]? = some x → x.nm b z = true
  | [], j, x, _, h => by simp at h
  | y :: l, 0, x, hm, h => by
    simp [PV.nmL] at h hm
    subst h
    exact hm.1
  | y :: l, j + 1, x, hm, h => by
    simp only [PV.nmL, Bool.and_eq_true] at hm
    exact PV.nmL_get hm.2 (by simpa using h)

theorem PV.noRoL_get : ∀ {l : List PV} {j : Nat} {x : PV}, PV.noRoL l = true → l[j]? = some x → x.noRo = true
  | [], j, x, _, h => by simp at h
  | y :: l, 0, x, hm, h => by
    simp [PV.noRoL] at h hm
    subst h
    exact hm.1
  | y :: l, j + 1, x, hm, h => by
    simp only [PV.noRoL, Bool.and_eq_true] at hm
    exact PV.noRoL_get hm.2 (by simpa using h)

/-- A result, renamed and taken over; if something was lent, it reads nothing old. -/
theorem PVRep.take {w : World} {φ φ' : Nat → Value} {St St' : Kind → Nat → Prop} {d z : Nat} {lent own : Bool} (hfz : ∀ g, St .fz g → St' .fz g) (hro : lent = false → ∀ g, St .ro g → St' .ro g) (hφ : own = true → φ' d = φ z) {x : PV} {v : Value} (h : PVRep w φ St x v) :
    (lent = true → x.noRo = true) → x.nm own z = true → PVRep w φ' St' (x.ren d) v := by
  induction h with
  | @t k x v h =>
    intro hn _
    cases k with
    | fz => exact .t (h.mono (fun _ _ => rfl) hfz)
    | ro =>
      cases hl : lent with
      | false => exact .t (h.mono (fun _ _ => rfl) (hro hl))
      | true =>
        have := hn hl
        cases x <;> simp [PV.noRo] at this
        cases h
        exact .t (.v _)
  | ptr h =>
    intro _ hm
    simp only [PV.nm, Bool.and_eq_true, beq_iff_eq] at hm
    obtain ⟨h1, rfl⟩ := hm
    exact .ptr ((hφ h1).trans h)
  | osl h =>
    intro _ hm
    simp only [PV.nm, Bool.and_eq_true, beq_iff_eq] at hm
    obtain ⟨h1, rfl⟩ := hm
    exact .osl ((hφ h1).trans h)
  | oep h =>
    intro _ hm
    simp only [PV.nm, Bool.and_eq_true, beq_iff_eq] at hm
    obtain ⟨h1, rfl⟩ := hm
    exact .oep ((hφ h1).trans h)
  | omp h =>
    intro _ hm
    simp only [PV.nm, Bool.and_eq_true, beq_iff_eq] at hm
    obtain ⟨h1, rfl⟩ := hm
    exact .omp ((hφ h1).trans h)
  | osv h hc =>
    intro _ hm
    simp only [PV.nm, Bool.and_eq_true, beq_iff_eq] at hm
    obtain ⟨h1, rfl⟩ := hm
    exact .osv ((hφ h1).trans h) hc
  | clo vs hs hrep ih =>
    intro hn hm
    refine .clo vs (by rw [PV.renL_length]; exact hs) fun j x hx => ?_
    rw [PV.renL_get] at hx
    obtain ⟨y, hy, rfl⟩ := Option.map_eq_some_iff.1 hx
    exact ih j y hy (fun hl => PV.noRoL_get (by simpa [PV.noRo] using hn hl) hy) (PV.nmL_get (by simpa [PV.nm] using hm) hy)
  | agg vs hs hrep ih =>
    intro hn hm
    refine .agg vs (by rw [PV.renL_length]; exact hs) fun j x hx => ?_
    rw [PV.renL_get] at hx
    obtain ⟨y, hy, rfl⟩ := Option.map_eq_some_iff.1 hx
    exact ih j y hy (fun hl => PV.noRoL_get (by simpa [PV.noRo] using hn hl) hy) (PV.nmL_get (by simpa [PV.nm] using hm) hy)
  | tup vs hs hrep ih =>
    intro hn hm
    refine .tup vs (by rw [PV.renL_length]; exact hs) fun j x hx => ?_
    rw [PV.renL_get] at hx
    obtain ⟨y, hy, rfl⟩ := Option.map_eq_some_iff.1 hx
    exact ih j y hy (fun hl => PV.noRoL_get (by simpa [PV.noRo] using hn hl) hy) (PV.nmL_get (by simpa [PV.nm] using hm) hy)
  | undef v => exact fun _ _ => .undef v

theorem ResRep.take {w : World} {φ φ' : Nat → Value} {St St' : Kind → Nat → Prop} {d z : Nat} {lent : Bool} (hfz : ∀ g, St .fz g → St' .fz g) (hro : lent = false → ∀ g, St .ro g → St' .ro g) (hφ : φ' d = φ z) {r : Res} {v : Value} {F : Nat → Prop}
    (h : ResRep w φ St r v F) (hn : lent = true → r.noRo = true) (hm : r.nm true z = true) : ResRep w φ' St' (r.ren d) v F := by
  cases r with
  | dead => exact h
  | blk ty cs =>
    obtain ⟨g, vs, hv, hF, hh, hs, hr⟩ := h
    refine ⟨g, vs, hv, hF, hh, by rw [PV.renL_length]; exact hs, fun j x hx => ?_⟩
    rw [PV.renL_get] at hx
    obtain ⟨y, hy, rfl⟩ := Option.map_eq_some_iff.1 hx
    exact (hr j y hy).take (lent := lent) (own := true) hfz hro (fun _ => hφ) (fun hl => PV.noRoL_get (by simpa [Res.noRo] using hn hl) hy) (PV.nmL_get (by simpa [Res.nm] using hm) hy)
  | row ty sz k xs =>
    obtain ⟨cells, ho, hb, hl, hr⟩ := h
    refine ⟨cells, ho, hb, hl, fun i j e x he hx => (hr i j e x he hx).mono (fun _ _ => rfl) fun g hg => ?_⟩
    cases k with
    | fz => exact hfz g hg
    | ro =>
      cases hle : lent with
      | false => exact hro hle g hg
      | true =>
        have h9 := hn hle
        exact absurd h9 (by simp [Res.noRo])
  | tab k es =>
    obtain ⟨r, ents, hv, hF, hh, he⟩ := h
    refine ⟨r, ents, hv, hF, hh, he.mono (fun _ _ => rfl) fun g hg => ?_⟩
    cases k with
    | fz => exact hfz g hg
    | ro =>
      cases hle : lent with
      | false => exact hro hle g hg
      | true =>
        have h9 := hn hle
        exact absurd h9 (by simp [Res.noRo])
  | iter mn n seen =>
    obtain ⟨g, r, sa, hv, hg, hr, hh, hs⟩ := h
    have : mn = z := by simpa [Res.nm] using hm
    subst this
    exact ⟨g, r, sa, hv, hg, hφ.trans hr, hh, hs⟩
  | junk => trivial

/-- The state behind a call that returned r. -/
def retS (s : StL) (d : Nat) (r : PV) : List (Nat × Res) → Option StL
  | [] => if r.nm false 0 = true then some ⟨(d, r.ren d) :: s.T, s.M⟩ else none
  | [(0, res)] => if r.nm true 0 = true ∧ res.nm true 0 = true ∧ s.free d = true then some ⟨(d, r.ren d) :: s.T, (d, res.ren d) :: s.M⟩ else none
  | _ => none

section
variable {P : Program} {w0 : Base} {F0 : Nat → Prop} {n : Nat} {s : StL} {a : Act} {w : World} {φ : Nat → Value} {fp : Nat → Nat → Prop}

def SL (w0 : Base) (w : World) (fp : Nat → Nat → Prop) (b : Bool) (g : Nat) : Prop := g < w.heap.size ∧ (b = true ∨ Stb w0 w fp .ro g)

theorem SL.of (k : Kind) (b : Bool) {g : Nat} (h : Stb w0 w fp k g) : SL w0 w fp b g := ⟨h.1, .inr ⟨h.1, h.2.1, h.2.2.imp id fun e => ⟨rfl, e.2⟩⟩⟩
theorem SL.mono {b b' : Bool} (hb : b = true → b' = true) {g : Nat} (h : SL w0 w fp b g) : SL w0 w fp b' g := ⟨h.1, h.2.imp hb id⟩

theorem optL_rep {f : PV → Option (Bool × TL)} (hf : ∀ p b x v, f p = some (b, x) → PVRep w φ (Stb w0 w fp) p v → TRep w (SL w0 w fp b) x v) : ∀ {ps : List PV} {b : Bool} {xs : List TL}, optL f ps = some (b, xs) →
    xs.length = ps.length ∧ ∀ (vs : Nat → Value), (∀ (j : Nat) (p : PV), ps[j]? = some p → PVRep w φ (Stb w0 w fp) p (vs j)) → ∀ (j : Nat) (x : TL), xs[j]? = some x → TRep w (SL w0 w fp b) x (vs j)
  | [], b, xs, h => by
    simp only [optL, Option.some.injEq, Prod.mk.injEq] at h
    obtain ⟨rfl, rfl⟩ := h
    exact ⟨rfl, fun vs _ j x hx => by simp at hx⟩
  | p :: ps, b, xs, h => by
    simp only [optL] at h
    split at h
    · rename_i b1 x b2 xs' h1 h2
      simp only [Option.some.injEq, Prod.mk.injEq] at h
      obtain ⟨rfl, rfl⟩ := h
      obtain ⟨hl, hr⟩ := optL_rep hf h2
      refine ⟨by simp [hl], fun vs hv j y hy => ?_⟩
      cases j with
      | zero =>
        simp at hy
        subst hy
        exact (hf p b1 x _ h1 (hv 0 p (by simp))).mono (fun _ _ => rfl) fun g hg => hg.mono (by intro h; simp [h])
      | succ j =>
        exact (hr (fun j => vs (j + 1)) (fun j p hp => hv (j + 1) p (by simpa using hp)) j y (by simpa using hy)).mono (fun _ _ => rfl) fun g hg => hg.mono (by intro h; simp [h])
    · cases h

theorem lendPV_rep (h : SimX w0 F0 n s a w φ fp) : ∀ (d : Nat) (p : PV) (b : Bool) (x : TL) (v : Value), lendPV d s p = some (b, x) → PVRep w φ (Stb w0 w fp) p v → TRep w (SL w0 w fp b) x v
  | 0, p, b, x, v, hq, _ => by simp [lendPV] at hq
  | d + 1, p, b, x, v, hq, hp => by
    have ih := lendPV_rep h d
    cases p with
    | t k y =>
      simp only [lendPV, Option.some.injEq, Prod.mk.injEq] at hq
      obtain ⟨rfl, rfl⟩ := hq
      exact hp.t_inv.mono (fun _ _ => rfl) fun g hg => SL.of k _ hg
    | osl m =>
      simp only [lendPV] at hq
      split at hq
      · rename_i ty sz k xs hM
        simp only [Option.some.injEq, Prod.mk.injEq] at hq
        obtain ⟨rfl, rfl⟩ := hq
        cases hp with
        | @osl _ len cap ao hφ =>
        have hres := h.res m
        rw [hM] at hres
        obtain ⟨cells, hown, hbd, hlen, hrep⟩ := hres
        rw [hφ] at hown
        rcases hown with ⟨hown, hF⟩ | ⟨rfl, ⟨ao', hv⟩, _⟩
        · rcases hown.2 with ⟨hv, hz⟩ | ⟨g, cap', cur, hv, _, hh, hle, _, _⟩
          · cases hv
            have hx : xs = [] := List.eq_nil_of_length_eq_zero hz
            subst hx
            exact .sl (cap := 0) (fun _ _ => Go.undef) (Nat.le_refl _) (by simp) (by simp) (by simp) (by simp) (.inl rfl) (by simp) (fun i j e x he => by simp at he)
          · cases hv
            refine .sl (fun i j => cells.getD (i * sz + j) Go.undef) hle (by simp) (by simp) (by simp) hbd (.inr ⟨g, 0, rfl, ?_, fun i j hi hj => ?_⟩) hlen fun i j e x he hx => (hrep i j e x he hx).mono (fun _ _ => rfl) fun g hg => SL.of k _ hg
            · exact ⟨(h.old m g ((hF g).2 rfl)).1, .inl rfl⟩
            · have hidx : i * sz + j < cells.length := by
                rw [hown.1]
                have : (i + 1) * sz ≤ xs.length * sz := Nat.mul_le_mul_right _ hi
                rw [Nat.add_mul] at this
                omega
              have h1 := hown.cells (g := g) rfl (i * sz + j) _ (List.getElem?_eq_getElem hidx)
              rw [addr_add, Nat.zero_add] at h1
              rw [Nat.zero_add, h1, List.getD_eq_getElem?_getD, List.getElem?_eq_getElem hidx]
              rfl
        · cases hv
          exact .sl (cap := 0) (fun _ _ => Go.undef) (Nat.le_refl _) (by simp) (by simp) (by simp) (by simp) (.inl rfl) (by simp) (fun i j e x he => by simp at he)
      · cases hq
    | ptr m off =>
      simp only [lendPV] at hq
      split at hq
      · rename_i ty cs hM
        split at hq
        · rename_i b' xs hxs
          simp only [Option.some.injEq, Prod.mk.injEq] at hq
          obtain ⟨rfl, rfl⟩ := hq
          cases hp with
          | @ptr _ _ g hφ =>
          have hres := h.res m
          rw [hM] at hres
          obtain ⟨g', vs, hv, hF, hh, hs, hr⟩ := hres
          rw [hφ] at hv
          cases hv
          obtain ⟨hl, hr'⟩ := optL_rep (fun p b x v => ih p b x v) hxs
          have hb : SL w0 w fp true g := ⟨(h.old m g ((hF g).2 rfl)).1, .inl rfl⟩
          have := TRep.rp (w := w) (S := SL w0 w fp true) (cs := xs) (off := off) (b := g) (o := 0) (fun j => vs.getD j Go.undef) hb (fun j hj => by
            rw [Nat.zero_add, cell_of_row w g j vs ty (0, 0) hh]
            have : j < vs.size := by omega
            simp [this]) (fun j x hx => (hr' (fun j => vs.getD j Go.undef) hr j x hx).mono (fun _ _ => rfl) fun g hg => hg.mono (by simp))
          rwa [Nat.zero_add] at this
        · cases hq
      · cases hq
    | clo f caps =>
      simp only [lendPV] at hq
      split at hq
      · rename_i b' xs hxs
        simp only [Option.some.injEq, Prod.mk.injEq] at hq
        obtain ⟨rfl, rfl⟩ := hq
        cases hp with
        | clo vs hs hr =>
        obtain ⟨hl, hr'⟩ := optL_rep (fun p b x v => ih p b x v) hxs
        exact .clo vs (by omega) fun j x hx => hr' (fun j => vs.getD j Go.undef) hr j x hx
      · cases hq
    | agg cs =>
      simp only [lendPV] at hq
      split at hq
      · rename_i b' xs hxs
        simp only [Option.some.injEq, Prod.mk.injEq] at hq
        obtain ⟨rfl, rfl⟩ := hq
        cases hp with
        | agg vs hs hr =>
        obtain ⟨hl, hr'⟩ := optL_rep (fun p b x v => ih p b x v) hxs
        exact .agg vs (by omega) fun j x hx => hr' (fun j => vs.getD j Go.undef) hr j x hx
      · cases hq
    | oep => simp [lendPV] at hq
    | omp => simp [lendPV] at hq
    | osv => simp [lendPV] at hq
    | tup => simp [lendPV] at hq
    | undef => simp [lendPV] at hq

/-- A call, by its contract. -/
theorem call_sim (h : SimX w0 F0 n s a w φ fp) {f d : Nat} {pvs : List PV} {vals : Array Value} {b : Bool} {tls : List TL} {r : PV} {Mr : List (Nat × Res)} {s' : StL} (hdn : d < n)
    (hv : vals.size = pvs.length) (hp : ∀ (j : Nat) (p : PV), pvs[j]? = some p → PVRep w φ (Stb w0 w fp) p (vals.getD j Go.undef)) (hl : optL (lendPV 5 s) pvs = some (b, tls)) (hc : PCall P f tls r Mr)
    (hno : b = true → r.noRo = true ∧ Mr.all (fun p => p.2.noRo) = true) (hr : retS s d r Mr = some s') :
    Calls P f vals w fun e w' => ∃ v, e = .returned v ∧ Sim w0 F0 n s' (a.put (some d) v) w' := by
  obtain ⟨hlen, hrep⟩ := optL_rep (fun p b x v => lendPV_rep h 5 p b x v) hl
  refine (hc.2 w (SL w0 w fp b) vals (fun g hg => hg.1) (by omega) (fun i x hx => hrep (fun j => vals.getD j Go.undef) hp i x hx)).mono ?_
  rintro e w' ⟨v, φc, fpc, rfl, hevo, hres, hdisj, hold, hrv⟩
  refine ⟨v, rfl, ?_⟩
  have hheap : ∀ g, g < w.heap.size → w'.heap[g]? = w.heap[g]? := fun g hg => hevo.block g hg (by simp)
  have hevo' : Evo F0 w0.w w' := ⟨hevo.os.trans h.evo.os, hevo.tape.trans h.evo.tape, hevo.output.trans h.evo.output, Nat.le_trans h.evo.size hevo.size,
    fun g hg hF => (hheap g (Nat.lt_of_lt_of_le hg h.evo.size)).trans (h.evo.block g hg hF)⟩
  unfold retS at hr
  split at hr
  · -- nothing is owned
    split at hr
    · rename_i hnm
      cases hr
      have hS : ∀ k g, Stb w0 w fp k g → Stb w0 w' fp k g := fun k g hg => ⟨Nat.lt_of_lt_of_le hg.1 hevo.size, hg.2⟩
      have hSc : ∀ k g, Stb w0 w fp k g → w'.heap[g]? = w.heap[g]? := fun k g hg => hheap g hg.1
      have h' : SimX w0 F0 n s a w' φ fp :=
        ⟨fun m => (h.res m).keep (fun g hg => hheap g (h.old m g hg).1) hSc hS, h.disj, fun m g hm => ⟨Nat.lt_of_lt_of_le (h.old m g hm).1 hevo.size, (h.old m g hm).2⟩, fun t => (h.tmp t).mono hSc hS, hevo', h.size, h.dfr, h.fix⟩
      refine ⟨φ, fp, h'.put hdn (hrv.take (lent := b) (own := false) (fun g hg => ?_) (fun hb g hg => ?_) (by simp) (fun hb => (hno hb).1) hnm)⟩
      · refine ⟨hg.1, fun m hm => ?_, .inl (.inl ?_)⟩
        · have := (h.old m g hm).1
          rcases Stb.inv hg with h1 | h1
          · omega
          · cases h1.1
        · rcases Stb.inv hg with h1 | h1
          · have := h.evo.size; omega
          · cases h1.1
      · rcases Stb.inv hg with h1 | ⟨_, h1⟩
        · refine ⟨hg.1, fun m hm => ?_, .inl (.inl ?_)⟩
          · have := (h.old m g hm).1; omega
          · have := h.evo.size; omega
        · have := h1.2.resolve_left (by simp [hb])
          exact hS _ _ this
    · cases hr
  · -- one name
    rename_i res
    split at hr
    · rename_i hcond
      obtain ⟨hnm, hnr, hfree⟩ := hcond
      cases hr
      simp only [StL.free, Bool.and_eq_true] at hfree
      have hno' : b = true → res.noRo = true := fun hb => by have := (hno hb).2; simpa using this
      have hF' : ∀ g, fpc 0 g → (fp d g ∨ w.heap.size ≤ g) ∧ g < w'.heap.size := fun g hg => ⟨.inr (hold 0 g hg).1, (hold 0 g hg).2⟩
      have hdead := Res.eq_dead hfree.2.1
      have hfd : ∀ g, ¬ fp d g := by
        have := h.res d
        rw [hdead] at this
        exact this
      -- what stays, for the caller
      have key : ∀ fp' : Nat → Nat → Prop, (∀ m g, fp' m g → fpc 0 g ∨ fp m g) → (∀ k g, Stb w0 w fp k g → Stb w0 w' fp' k g) →
          (∀ g, Stb (Base.of w (SL w0 w fp b)) w' fpc .fz g → Stb w0 w' fp' .fz g) ∧ (b = false → ∀ g, Stb (Base.of w (SL w0 w fp b)) w' fpc .ro g → Stb w0 w' fp' .ro g) := by
        intro fp' hfp' hS
        refine ⟨fun g hg => ?_, fun hb g hg => ?_⟩
        · have hge : w.heap.size ≤ g := by
            rcases Stb.inv hg with h1 | h1
            · exact h1
            · cases h1.1
          refine ⟨hg.1, fun m hm => ?_, .inl (.inl (by have := h.evo.size; omega))⟩
          rcases hfp' m g hm with h1 | h1
          · exact hg.2.1 0 h1
          · have := (h.old m g h1).1; omega
        · rcases Stb.inv hg with h1 | ⟨_, h1⟩
          · refine ⟨hg.1, fun m hm => ?_, .inl (.inl (by have := h.evo.size; omega))⟩
            rcases hfp' m g hm with h2 | h2
            · exact hg.2.1 0 h2
            · have := (h.old m g h2).1; omega
          · exact hS _ _ (h1.2.resolve_left (by simp [hb]))
      let φ' : Nat → Value := fun q => if q = d then φc 0 else φ q
      let fp' : Nat → Nat → Prop := fun q g => if q = d then fpc 0 g else fp q g
      have hne : ∀ q, q ≠ d → φ' q = φ q := fun q hq => by simp [φ', hq]
      have e2 : φ' d = φc 0 := by simp [φ']
      have hfp' : ∀ m g, fp' m g → fpc 0 g ∨ fp m g := by
        intro m g hm
        simp only [fp'] at hm
        by_cases e : m = d
        · rw [if_pos e] at hm; exact .inl hm
        · rw [if_neg e] at hm; exact .inr hm
      have hS : ∀ k g, Stb w0 w fp k g → Stb w0 w' fp' k g := by
        intro k g hg
        refine ⟨Nat.lt_of_lt_of_le hg.1 hevo.size, fun q hq => ?_, hg.2.2⟩
        rcases hfp' q g hq with h1 | h1
        · have := (hold 0 g h1).1; have := hg.1; omega
        · exact hg.2.1 q h1
      have hSc : ∀ k g, Stb w0 w fp k g → w'.heap[g]? = w.heap[g]? := fun k g hg => hheap g hg.1
      obtain ⟨hk1, hk2⟩ := key fp' hfp' hS
      have h' : SimX w0 F0 n ⟨s.T, (d, res.ren d) :: s.M⟩ a w' φ' fp' := by
        refine ⟨fun q => ?_, fun q q' g h1 h2 => ?_, fun q g hq => ?_, fun t => ?_, hevo', h.size, h.dfr, fun q hq => (hne q (by have := of_decide_eq_true hfree.2.2; omega)).trans (h.fix q hq)⟩
        · show ResRep _ _ _ (getM ((d, res.ren d) :: s.M) q) _ _
          simp only [getM]
          by_cases e : d = q
          · subst e
            rw [if_pos rfl]
            have e1 : fp' d = fpc 0 := by funext g; simp [fp']
            rw [e1, e2]
            have h0 := hres 0
            simp only [getM, if_true] at h0
            exact h0.take (lent := b) hk1 hk2 e2 hno' hnr
          · rw [if_neg e]
            have e1 : fp' q = fp q := by funext g; simp [fp', Ne.symm e]
            rw [e1, hne q (Ne.symm e)]
            refine ((h.res q).keep (fun g hg => hheap g (h.old q g hg).1) hSc hS).rename fun q' hq' => hne q' ?_
            rintro rfl
            have := getM_men hfree.1.2 q
            rw [this] at hq'; cases hq'
        · simp only [fp'] at h1 h2
          by_cases e1 : q = d <;> by_cases e3 : q' = d
          · rw [e1, e3]
          · rw [if_pos e1] at h1; rw [if_neg e3] at h2
            have := (hold 0 g h1).1; have := (h.old q' g h2).1; omega
          · rw [if_neg e1] at h1; rw [if_pos e3] at h2
            have := (hold 0 g h2).1; have := (h.old q g h1).1; omega
          · rw [if_neg e1] at h1; rw [if_neg e3] at h2
            exact h.disj q q' g h1 h2
        · simp only [fp'] at hq
          by_cases e1 : q = d
          · rw [if_pos e1] at hq
            have h3 := hold 0 g hq
            have := h.evo.size
            exact ⟨h3.2, .inr (by omega)⟩
          · rw [if_neg e1] at hq
            have h3 := h.old q g hq
            exact ⟨Nat.lt_of_lt_of_le h3.1 hevo.size, h3.2⟩
        · refine ((h.tmp t).mono hSc hS).rename fun q' hq' => hne q' ?_
          rintro rfl
          have := getT_men hfree.1.1 t
          rw [this] at hq'; cases hq'
      exact ⟨φ', fp', h'.put hdn (hrv.take (lent := b) (own := true) hk1 hk2 (fun _ => e2) (fun hb => (hno hb).1) hnm)⟩
    · cases hr
  · cases hr

end
end Go.PS
/- PSE: contracts of calls that may change memory handed to them by name. -/
namespace Go.PS
open Go Go.RowKit

/-- Pairs (a caller's name, the callee's name). -/
abbrev Sg := List (Nat × Nat)
def Sg.to : Sg → Nat → Option Nat
  | [], _ => none
  | (c, e) :: l, m => if c = m then some e else Sg.to l m
def Sg.bk : Sg → Nat → Option Nat
  | [], _ => none
  | (c, e) :: l, m => if e = m then some c else Sg.bk l m
def Sg.ok (g : Sg) : Bool := g.all fun p => g.to p.1 == some p.2 && g.bk p.2 == some p.1 && (decide (p.1 < 1000000) || decide (1000000 ≤ p.2))

theorem Sg.to_mem {m e : Nat} : ∀ {g : Sg}, g.to m = some e → (m, e) ∈ g
  | [], h => by simp [Sg.to] at h
  | (c, e') :: l, h => by
    simp only [Sg.to] at h
    split at h
    · rename_i hc
      cases h
      subst hc
      exact List.mem_cons_self
    · exact List.mem_cons_of_mem _ (Sg.to_mem h)
theorem Sg.bk_mem {m e : Nat} : ∀ {g : Sg}, g.bk e = some m → (m, e) ∈ g
  | [], h => by simp [Sg.bk] at h
  | (c, e') :: l, h => by
    simp only [Sg.bk] at h
    split at h
    · rename_i hc
      cases h
      subst hc
      exact List.mem_cons_self
    · exact List.mem_cons_of_mem _ (Sg.bk_mem h)
theorem Sg.ok_at {g : Sg} (h : g.ok = true) {m e : Nat} (hm : (m, e) ∈ g) : g.to m = some e ∧ g.bk e = some m ∧ (m < 1000000 ∨ 1000000 ≤ e) := by
  have := List.all_eq_true.1 h _ hm
  simpa [and_assoc] using this

mutual
/-- A caller's value, as the callee sees it. -/
def PV.mp (f : Nat → Option Nat) (nk : Bool) : PV → PV
  | .t k (.v x) => if nk then .t .fz (.v x) else .t k (.v x)
  | .t k x => if nk then .t .ro x else .t k x
  | .ptr n off => match f n with
    | some m => .ptr m off
    | none => .undef
  | .osl n => match f n with
    | some m => .osl m
    | none => .undef
  | .oep n sz i off => match f n with
    | some m => .oep m sz i off
    | none => .undef
  | .omp n => match f n with
    | some m => .omp m
    | none => .undef
  | .osv n sz lo len => match f n with
    | some m => .osv m sz lo len
    | none => .undef
  | .clo g caps => .clo g (PV.mpL f nk caps)
  | .agg cs => .agg (PV.mpL f nk cs)
  | .tup cs => .tup (PV.mpL f nk cs)
  | .undef => .undef
def PV.mpL (f : Nat → Option Nat) (nk : Bool) : List PV → List PV
  | [] => []
  | x :: l => PV.mp f nk x :: PV.mpL f nk l
end

def Res.mp (f : Nat → Option Nat) (nk : Bool) : Res → Res
  | .dead => .dead
  | .blk ty cs => .blk ty (PV.mpL f nk cs)
  | .row ty sz k xs => .row ty sz (if nk then .ro else k) xs
  | .tab k es => .tab (if nk then .ro else k) es
  | .iter mn n seen => match f mn with
    | some m => .iter m n seen
    | none => .junk
  | .junk => .junk

theorem PV.mpL_get (f : Nat → Option Nat) (nk : Bool) : ∀ (l : List PV) (j : Nat), (PV.mpL f nk l)[j]? = (l[j]?).map (PV.mp f nk)
  | [], j => by simp [PV.mpL]
  | x :: l, 0 => by simp [PV.mpL]
  | x :: l, j + 1 => by simp [PV.mpL, PV.mpL_get f nk l j]
theorem PV.mpL_length (f : Nat → Option Nat) (nk : Bool) : ∀ (l : List PV), (PV.mpL f nk l).length = l.length
  | [] => rfl
  | x :: l => by simp [PV.mpL, PV.mpL_length f nk l]

theorem PVRep.mp {w : World} {φ φ' : Nat → Value} {St St' : Kind → Nat → Prop} {f : Nat → Option Nat} {nk : Bool} (hφ : ∀ n m, f n = some m → φ' m = φ n)
    (hk : ∀ k g, St k g → St' (if nk then .ro else k) g) {x : PV} {v : Value} (h : PVRep w φ St x v) : PVRep w φ' St' (x.mp f nk) v := by
  induction h with
  | @t k x v h =>
    cases x with
    | v y =>
      have := h.v_inv
      subst this
      simp only [PV.mp]
      split
      · exact .t (.v _)
      · exact .t (.v _)
    | _ =>
      simp only [PV.mp]
      have h' := h.mono (S' := St' (if nk then .ro else k)) (fun _ _ => rfl) (hk k)
      split
      · rename_i hn
        rw [if_pos hn] at h'
        exact .t h'
      · rename_i hn
        rw [if_neg hn] at h'
        exact .t h'
  | @ptr n off g h =>
    simp only [PV.mp]
    cases hf : f n with
    | none => exact .undef _
    | some m => exact .ptr ((hφ n m hf).trans h)
  | @osl n len cap ao h =>
    simp only [PV.mp]
    cases hf : f n with
    | none => exact .undef _
    | some m => exact .osl ((hφ n m hf).trans h)
  | @oep n sz i off g len cap h =>
    simp only [PV.mp]
    cases hf : f n with
    | none => exact .undef _
    | some m => exact .oep ((hφ n m hf).trans h)
  | @omp n r h =>
    simp only [PV.mp]
    cases hf : f n with
    | none => exact .undef _
    | some m => exact .omp ((hφ n m hf).trans h)
  | @osv n sz lo len g l c cap h hc =>
    simp only [PV.mp]
    cases hf : f n with
    | none => exact .undef _
    | some m => exact .osv ((hφ n m hf).trans h) hc
  | clo vs hs hrep ih =>
    simp only [PV.mp]
    refine .clo vs (by rw [PV.mpL_length]; exact hs) fun j x hx => ?_
    rw [PV.mpL_get] at hx
    obtain ⟨y, hy, rfl⟩ := Option.map_eq_some_iff.1 hx
    exact ih j y hy
  | agg vs hs hrep ih =>
    simp only [PV.mp]
    refine .agg vs (by rw [PV.mpL_length]; exact hs) fun j x hx => ?_
    rw [PV.mpL_get] at hx
    obtain ⟨y, hy, rfl⟩ := Option.map_eq_some_iff.1 hx
    exact ih j y hy
  | tup vs hs hrep ih =>
    simp only [PV.mp]
    refine .tup vs (by rw [PV.mpL_length]; exact hs) fun j x hx => ?_
    rw [PV.mpL_get] at hx
    obtain ⟨y, hy, rfl⟩ := Option.map_eq_some_iff.1 hx
    exact ih j y hy
  | undef v => exact .undef _

theorem ResRep.mp {w : World} {φ φ' : Nat → Value} {St St' : Kind → Nat → Prop} {f : Nat → Option Nat} {nk : Bool} (hφ : ∀ n m, f n = some m → φ' m = φ n)
    (hk : ∀ k g, St k g → St' (if nk then .ro else k) g) {r : Res} {v : Value} {F : Nat → Prop} (h : ResRep w φ St r v F) : ResRep w φ' St' (r.mp f nk) v F := by
  cases r with
  | dead => exact h
  | blk ty cs =>
    obtain ⟨g, vs, hv, hF, hh, hs, hr⟩ := h
    refine ⟨g, vs, hv, hF, hh, by rw [PV.mpL_length]; exact hs, fun j x hx => ?_⟩
    rw [PV.mpL_get] at hx
    obtain ⟨y, hy, rfl⟩ := Option.map_eq_some_iff.1 hx
    exact (hr j y hy).mp hφ hk
  | row ty sz k xs =>
    obtain ⟨cells, ho, hb, hl, hr⟩ := h
    exact ⟨cells, ho, hb, hl, fun i j e x he hx => (hr i j e x he hx).mono (fun _ _ => rfl) (hk k)⟩
  | tab k es =>
    obtain ⟨r, ents, hv, hF, hh, he⟩ := h
    exact ⟨r, ents, hv, hF, hh, he.mono (fun _ _ => rfl) (hk k)⟩
  | iter mn n seen =>
    obtain ⟨g, r, sa, hv, hg, hr, hh, hs⟩ := h
    simp only [Res.mp]
    cases hf : f mn with
    | none => trivial
    | some m => exact ⟨g, r, sa, hv, hg, (hφ mn m hf).trans hr, hh, hs⟩
  | junk => trivial

/-- Where a callee began that was handed memory by name. -/
abbrev Base.on (w : World) (S : Nat → Prop) (φ : Nat → Value) (fp : Nat → Nat → Prop) : Base := ⟨w, S, fun g => ∃ m, fp m g, φ⟩

/-- What a callee is handed. -/
structure Handed (w : World) (S : Nat → Prop) (φ : Nat → Value) (fp : Nat → Nat → Prop) (args : List PV) (M : List (Nat × Res)) (vals : Array Value) : Prop where
  stays : ∀ g, S g → g < w.heap.size ∧ ∀ m, ¬ fp m g
  size : vals.size = args.length
  res : ∀ m, ResRep w φ (fun k g => k = .ro ∧ S g) (getM M m) (φ m) (fp m)
  disj : ∀ m m' g, fp m g → fp m' g → m = m'
  lt : ∀ m g, fp m g → g < w.heap.size
  args : ∀ (i : Nat) (x : PV), args[i]? = some x → PVRep w φ (fun k g => k = .ro ∧ S g) x (vals.getD i Go.undef)

/-- What a callee hands back. -/
structure Back (w : World) (S : Nat → Prop) (φ : Nat → Value) (fp : Nat → Nat → Prop) (r : PV) (M' : List (Nat × Res)) (w' : World) (v : Value) (φ' : Nat → Value) (fp' : Nat → Nat → Prop) : Prop where
  evo : Evo (fun g => ∃ m, fp m g) w w'
  res : ∀ m, ResRep w' φ' (Stb (Base.on w S φ fp) w' fp') (getM M' m) (φ' m) (fp' m)
  disj : ∀ m m' g, fp' m g → fp' m' g → m = m'
  old : ∀ m g, fp' m g → g < w'.heap.size ∧ ((∃ m', fp m' g) ∨ w.heap.size ≤ g)
  fix : ∀ m, 1000000 ≤ m → φ' m = φ m
  val : PVRep w' φ' (Stb (Base.on w S φ fp) w' fp') r v

/-- Called with these values, the memory M in hand, the function returns what Post says, and leaves memory so. -/
def ECallP (P : Program) (f : FuncId) (args : List PV) (M : List (Nat × Res)) (Post : PV → List (Nat × Res) → Prop) : Prop :=
  Callable P f ∧ ∀ (w : World) (S : Nat → Prop) (φ : Nat → Value) (fp : Nat → Nat → Prop) (vals : Array Value), Handed w S φ fp args M vals →
    Calls P f vals w fun e w' => ∃ v φ' fp' r M', Post r M' ∧ e = .returned v ∧ Back w S φ fp r M' w' v φ' fp'
/-- Called with these values, the memory M in hand, the function returns r and leaves M'. -/
def ECall (P : Program) (f : FuncId) (args : List PV) (M : List (Nat × Res)) (r : PV) (M' : List (Nat × Res)) : Prop := ECallP P f args M fun r' M'' => r' = r ∧ M'' = M'

theorem getM_none {m : Nat} : ∀ {M : List (Nat × Res)}, (∀ q ∈ M, q.1 ≠ m) → getM M m = .dead
  | [], _ => rfl
  | (k, r) :: M, h => by
    simp only [getM]
    rw [if_neg (h (k, r) (by simp)), getM_none fun q hq => h q (List.mem_cons_of_mem _ hq)]

/-- Names whose value may have turned are forgotten. -/
def StL.kills (s : StL) : Sg → StL
  | [] => s
  | (c, e) :: l => if e < 1000000 then (StL.kills s l).kill c else StL.kills s l
def backM (g0 : Sg) (M' : List (Nat × Res)) (M : List (Nat × Res)) : Sg → List (Nat × Res)
  | [] => M
  | (c, e) :: l => (c, (getM M' e).mp g0.bk false) :: backM g0 M' M l
/-- The state behind such a call. -/
def retE (s : StL) (d : Nat) (g : Sg) (r : PV) (M' : List (Nat × Res)) : StL := ⟨(d, r.mp g.bk false) :: (s.kills g).T, backM g M' (s.kills g).M g⟩

theorem getM_backM_hit {g0 : Sg} {M' M : List (Nat × Res)} {c e : Nat} : ∀ {g : Sg}, g.to c = some e → getM (backM g0 M' M g) c = (getM M' e).mp g0.bk false
  | [], h => by simp [Sg.to] at h
  | (c', e') :: l, h => by
    simp only [Sg.to] at h
    simp only [backM, getM]
    split
    · rename_i hc
      rw [if_pos hc] at h
      cases h
      rfl
    · rename_i hc
      rw [if_neg hc] at h
      exact getM_backM_hit h
theorem getM_backM_miss {g0 : Sg} {M' M : List (Nat × Res)} {c : Nat} : ∀ {g : Sg}, g.to c = none → getM (backM g0 M' M g) c = getM M c
  | [], h => rfl
  | (c', e') :: l, h => by
    simp only [Sg.to] at h
    simp only [backM, getM]
    split
    · rename_i hc
      rw [if_pos hc] at h
      cases h
    · rename_i hc
      rw [if_neg hc] at h
      exact getM_backM_miss h

section
variable {P : Program} {w0 : Base} {F0 : Nat → Prop} {n : Nat} {s : StL} {a : Act} {w : World} {φ : Nat → Value} {fp : Nat → Nat → Prop}

theorem SimX.kills (h : SimX w0 F0 n s a w φ fp) : ∀ g : Sg, SimX w0 F0 n (s.kills g) a w φ fp
  | [] => h
  | (c, e) :: l => by
    simp only [StL.kills]
    split
    · exact (SimX.kills h l).kill c
    · exact SimX.kills h l

theorem all_killT (m c : Nat) {T : List (Nat × PV)} (h : T.all (fun p => !p.2.men m) = true) : (killT c T).all (fun p => !p.2.men m) = true := by
  rw [killT, List.all_map, List.all_eq_true]
  intro p hp
  have := List.all_eq_true.1 h p hp
  simp only [Function.comp]
  split
  · rfl
  · exact this
theorem menL_killed (m c : Nat) {cs : List PV} (h : PV.menL m cs = false) : PV.menL m (cs.map fun x => if x.men c then .undef else x) = false := by
  induction cs with
  | nil => rfl
  | cons x cs ih =>
    simp only [PV.menL, Bool.or_eq_false_iff] at h
    simp only [List.map_cons, PV.menL, ih h.2, Bool.or_false]
    split
    · rfl
    · exact h.1
theorem all_killM (m c : Nat) {M : List (Nat × Res)} (h : M.all (fun p => !p.2.men m) = true) : (killM c M).all (fun p => !p.2.men m) = true := by
  rw [killM, List.all_map, List.all_eq_true]
  intro p hp
  have := List.all_eq_true.1 h p hp
  simp only [Function.comp]
  obtain ⟨k, r⟩ := p
  cases r with
  | dead => rfl
  | row => rfl
  | tab => rfl
  | junk => rfl
  | iter mn n seen =>
    simp only [Res.kill]
    split
    · rfl
    · exact this
  | blk ty cs =>
    simp only [Res.kill, Res.men, Bool.not_eq_true'] at this ⊢
    exact menL_killed m c this

theorem kills_men {c e : Nat} (he : e < 1000000) : ∀ {g : Sg}, (c, e) ∈ g → (s.kills g).T.all (fun p => !p.2.men c) = true ∧ (s.kills g).M.all (fun p => !p.2.men c) = true
  | [], h => by cases h
  | (c', e') :: l, h => by
    simp only [StL.kills]
    rcases List.mem_cons.1 h with h | h
    · cases h
      rw [if_pos he]
      exact ⟨killT_men c _, killM_men c _⟩
    · obtain ⟨h1, h2⟩ := kills_men he h
      split
      · exact ⟨all_killT _ _ h1, all_killM _ _ h2⟩
      · exact ⟨h1, h2⟩

/-- A call that may change memory handed to it. -/
theorem ecall_sim (h : SimX w0 F0 n s a w φ fp) {f d : Nat} {pvs args : List PV} {M : List (Nat × Res)} {vals : Array Value} {Post : PV → List (Nat × Res) → Prop} (g : Sg) (hdn : d < n)
    (hv : vals.size = pvs.length) (hp : ∀ (j : Nat) (p : PV), pvs[j]? = some p → PVRep w φ (Stb w0 w fp) p (vals.getD j Go.undef)) (hc : ECallP P f args M Post)
    (hok : g.ok = true) (hargs : PV.mpL g.to true pvs = args) (hM : ∀ p ∈ g, getM M p.2 = (getM s.M p.1).mp g.to true) (hM' : M.all (fun q => (g.bk q.1).isSome) = true) :
    Calls P f vals w fun e w' => ∃ v r M', Post r M' ∧ e = .returned v ∧ Sim w0 F0 n (retE s d g r M') (a.put (some d) v) w' := by
  have hto : ∀ c e, g.to c = some e ↔ g.bk e = some c := fun c e => ⟨fun h => (Sg.ok_at hok (Sg.to_mem h)).2.1, fun h => (Sg.ok_at hok (Sg.bk_mem h)).1⟩
  let φc : Nat → Value := fun m => match g.bk m with
    | some c => φ c
    | none => Go.undef
  let fpc : Nat → Nat → Prop := fun m x => ∃ c, g.bk m = some c ∧ fp c x
  have eφ : ∀ c e, g.to c = some e → φc e = φ c := fun c e he => by simp only [φc, (hto c e).1 he]
  have efp : ∀ c e, g.to c = some e → fpc e = fp c := fun c e he => by
    funext x
    simp only [fpc, (hto c e).1 he, Option.some.injEq, exists_eq_left']
  have hStk : ∀ k x, Stb w0 w fp k x → Stb w0 w fp .ro x := fun k x hx => ⟨hx.1, hx.2.1, hx.2.2.imp id fun e => ⟨rfl, e.2⟩⟩
  have hH : Handed w (Stb w0 w fp .ro) φc fpc args M vals := by
    refine ⟨fun x hx => ⟨hx.1, fun m ⟨c, _, hm⟩ => hx.2.1 c hm⟩, by rw [← hargs, PV.mpL_length]; exact hv, fun m => ?_, ?_, fun m x ⟨c, _, hm⟩ => (h.old c x hm).1, fun i x hx => ?_⟩
    · cases hb : g.bk m with
      | none =>
        rw [getM_none fun q hq e => by
          have := List.all_eq_true.1 hM' q hq
          rw [e, hb] at this
          cases this]
        rintro x ⟨c, hc, _⟩
        rw [hb] at hc
        cases hc
      | some c =>
        have ht := (hto c m).2 hb
        rw [hM _ (Sg.bk_mem hb), eφ c m ht, efp c m ht]
        exact (h.res c).mp eφ (fun k x hx => by simpa using hStk k x hx)
    · rintro m m' x ⟨c, h1, h2⟩ ⟨c', h3, h4⟩
      have := h.disj c c' x h2 h4
      subst this
      have e1 := (hto c m).2 h1
      rw [(hto c m').2 h3] at e1
      cases e1
      rfl
    · rw [← hargs, PV.mpL_get] at hx
      obtain ⟨y, hy, rfl⟩ := Option.map_eq_some_iff.1 hx
      exact (hp i y hy).mp eφ (fun k x hx => by simpa using hStk k x hx)
  refine (hc.2 w (Stb w0 w fp .ro) φc fpc vals hH).mono ?_
  rintro e w' ⟨v, φ', fp', r, M', hPost, rfl, hB⟩
  refine ⟨v, r, M', hPost, rfl, ?_⟩
  have hFp : ∀ x, (∃ m, fpc m x) → ∃ c e, g.to c = some e ∧ fp c x := fun x ⟨m, c, h1, h2⟩ => ⟨c, m, (hto c m).2 h1, h2⟩
  have hheap : ∀ x, x < w.heap.size → (∀ c e, g.to c = some e → ¬ fp c x) → w'.heap[x]? = w.heap[x]? := fun x hx hn => hB.evo.block x hx fun hF => by
    obtain ⟨c, e, h1, h2⟩ := hFp x hF
    exact hn c e h1 h2
  let φ1 : Nat → Value := fun c => match g.to c with
    | some e => φ' e
    | none => φ c
  let fp1 : Nat → Nat → Prop := fun c x => match g.to c with
    | some e => fp' e x
    | none => fp c x
  have e1φ : ∀ c e, g.to c = some e → φ1 c = φ' e := fun c e he => by simp only [φ1, he]
  have e1fp : ∀ c e, g.to c = some e → fp1 c = fp' e := fun c e he => by funext x; simp only [fp1, he]
  have e0φ : ∀ c, g.to c = none → φ1 c = φ c := fun c he => by simp only [φ1, he]
  have e0fp : ∀ c, g.to c = none → fp1 c = fp c := fun c he => by funext x; simp only [fp1, he]
  have hfix : ∀ c e, g.to c = some e → 1000000 ≤ e → φ1 c = φ c := fun c e he h6 => by rw [e1φ c e he, hB.fix e h6, eφ c e he]
  have hS : ∀ k x, Stb w0 w fp k x → Stb w0 w' fp1 k x := by
    intro k x hx
    refine ⟨Nat.lt_of_lt_of_le hx.1 hB.evo.size, fun c hcx => ?_, hx.2.2⟩
    cases ht : g.to c with
    | none => rw [e0fp c ht] at hcx; exact hx.2.1 c hcx
    | some e =>
      rw [e1fp c e ht] at hcx
      rcases (hB.old e x hcx).2 with h1 | h1
      · obtain ⟨c', _, _, h2⟩ := hFp x h1
        exact hx.2.1 c' h2
      · have := hx.1; omega
  have hSc : ∀ k x, Stb w0 w fp k x → w'.heap[x]? = w.heap[x]? := fun k x hx => hheap x hx.1 fun c e _ => hx.2.1 c
  have hSb : ∀ k x, Stb (Base.on w (Stb w0 w fp .ro) φc fpc) w' fp' k x → Stb w0 w' fp1 (if false then .ro else k) x := by
    intro k x hx
    refine ⟨hx.1, fun c hcx => ?_, ?_⟩
    · cases ht : g.to c with
      | some e => rw [e1fp c e ht] at hcx; exact hx.2.1 e hcx
      | none =>
        rw [e0fp c ht] at hcx
        rcases hx.2.2 with (h1 | h1) | ⟨_, h1⟩
        · have := (h.old c x hcx).1
          have h1' : w.heap.size ≤ x := h1
          omega
        · obtain ⟨c', e', h2, h3⟩ := hFp x h1
          have := h.disj c c' x hcx h3
          subst this
          rw [ht] at h2
          cases h2
        · exact h1.2.1 c hcx
    · simp only [Bool.false_eq_true, if_false]
      rcases hx.2.2 with (h1 | h1) | ⟨rfl, h1⟩
      · have := h.evo.size
        have h1' : w.heap.size ≤ x := h1
        exact .inl (.inl (by omega))
      · obtain ⟨c', e', h2, h3⟩ := hFp x h1
        rcases (h.old c' x h3).2 with h4 | h4
        · exact .inl (.inr (h.dfr.2 x h4))
        · exact .inl (.inl h4)
      · exact h1.2.2
  have hbkφ : ∀ n m, g.bk n = some m → φ1 m = φ' n := fun n m hb => e1φ m n ((hto m n).2 hb)
  have hk := h.kills g
  have hren : ∀ m, ((s.kills g).T.all (fun p => !p.2.men m) = true ∧ (s.kills g).M.all (fun p => !p.2.men m) = true) ∨ φ1 m = φ m := by
    intro m
    cases ht : g.to m with
    | none => exact .inr (e0φ m ht)
    | some e =>
      rcases Nat.lt_or_ge e 1000000 with h6 | h6
      · exact .inl (kills_men h6 (Sg.to_mem ht))
      · exact .inr (hfix m e ht h6)
  refine ⟨φ1, fp1, SimX.put (s := ⟨(s.kills g).T, backM g M' (s.kills g).M g⟩) ⟨fun c => ?_, fun c c' x h1 h2 => ?_, fun c x hcx => ?_, fun t => ?_, ?_, h.size, h.dfr, fun c h6 => ?_⟩ hdn (hB.val.mp hbkφ hSb)⟩
  · show ResRep _ _ _ (getM (backM g M' (s.kills g).M g) c) _ _
    cases ht : g.to c with
    | some e =>
      rw [getM_backM_hit ht, e1φ c e ht, e1fp c e ht]
      exact (hB.res e).mp hbkφ hSb
    | none =>
      rw [getM_backM_miss ht, e0φ c ht, e0fp c ht]
      refine ((hk.res c).keep (fun x hx => hheap x (h.old c x hx).1 fun c' e' h1 h2 => ?_) hSc hS).rename fun m hm => ?_
      · have := h.disj c c' x hx h2
        subst this
        rw [ht] at h1
        cases h1
      · rcases hren m with h1 | h1
        · rw [getM_men h1.2 c] at hm
          cases hm
        · exact h1
  · cases ht : g.to c with
    | some e =>
      rw [e1fp c e ht] at h1
      cases ht' : g.to c' with
      | some e' =>
        rw [e1fp c' e' ht'] at h2
        have := hB.disj e e' x h1 h2
        subst this
        have h3 := (hto c e).1 ht
        rw [(hto c' e).1 ht'] at h3
        cases h3
        rfl
      | none =>
        rw [e0fp c' ht'] at h2
        rcases (hB.old e x h1).2 with h3 | h3
        · obtain ⟨c2, e2, h4, h5⟩ := hFp x h3
          have := h.disj c' c2 x h2 h5
          subst this
          rw [ht'] at h4
          cases h4
        · have := (h.old c' x h2).1; omega
    | none =>
      rw [e0fp c ht] at h1
      cases ht' : g.to c' with
      | some e' =>
        rw [e1fp c' e' ht'] at h2
        rcases (hB.old e' x h2).2 with h3 | h3
        · obtain ⟨c2, e2, h4, h5⟩ := hFp x h3
          have := h.disj c c2 x h1 h5
          subst this
          rw [ht] at h4
          cases h4
        · have := (h.old c x h1).1; omega
      | none =>
        rw [e0fp c' ht'] at h2
        exact h.disj c c' x h1 h2
  · cases ht : g.to c with
    | some e =>
      rw [e1fp c e ht] at hcx
      obtain ⟨h1, h2⟩ := hB.old e x hcx
      refine ⟨h1, ?_⟩
      rcases h2 with h2 | h2
      · obtain ⟨c2, e2, h4, h5⟩ := hFp x h2
        exact (h.old c2 x h5).2
      · have := h.evo.size
        exact .inr (by omega)
    | none =>
      rw [e0fp c ht] at hcx
      have := h.old c x hcx
      exact ⟨Nat.lt_of_lt_of_le this.1 hB.evo.size, this.2⟩
  · refine ((hk.tmp t).mono hSc hS).rename fun m hm => ?_
    rcases hren m with h1 | h1
    · rw [getT_men h1.1 t] at hm
      cases hm
    · exact h1
  · refine ⟨hB.evo.os.trans h.evo.os, hB.evo.tape.trans h.evo.tape, hB.evo.output.trans h.evo.output, Nat.le_trans h.evo.size hB.evo.size, fun x hx hF => ?_⟩
    refine (hheap x (Nat.lt_of_lt_of_le hx h.evo.size) fun c e _ hcx => ?_).trans (h.evo.block x hx hF)
    rcases (h.old c x hcx).2 with h1 | h1
    · exact hF h1
    · omega
  · cases ht : g.to c with
    | none => rw [e0φ c ht]; exact h.fix c h6
    | some e =>
      have := (Sg.ok_at hok (Sg.to_mem ht)).2.2
      rw [hfix c e ht (by omega)]
      exact h.fix c h6
end
end Go.PS
/- PSF: memory of our own, given up: it becomes trees. -/
namespace Go.PS
open Go Go.RowKit

def optK (f : PV → Option (Kind × TL)) : List PV → Option (Kind × List TL)
  | [] => some (.fz, [])
  | p :: l => match f p, optK f l with
    | some (b, x), some (b', xs) => some (b.join b', x :: xs)
    | _, _ => none

/-- Memory of our own, given up: a tree. -/
def frzT : Nat → StL → PV → Option (Kind × TL)
  | 0, _, _ => none
  | d + 1, s, p => match p with
    | .t _ (.v x) => some (.fz, .v x)
    | .t k x => some (k, x)
    | .osl m => match getM s.M m with
      | .row _ sz k xs => some (k, .sl .any sz xs)
      | _ => none
    | .ptr m off => match getM s.M m with
      | .blk _ cs => match optK (frzT d s) cs with
        | some (k, xs) => some (k, .rp xs off)
        | none => none
      | _ => none
    | .clo f caps => match optK (frzT d s) caps with
      | some (k, xs) => some (k, .clo f xs)
      | none => none
    | .agg cs => match optK (frzT d s) cs with
      | some (k, xs) => some (k, .agg xs)
      | none => none
    | .tup cs => match optK (frzT d s) cs with
      | some (k, xs) => some (k, .tup xs)
      | none => none
    | _ => none

section
variable {P : Program} {w0 : Base} {F0 : Nat → Prop} {n : Nat} {s : StL} {a : Act} {w : World} {φ : Nat → Value} {fp : Nat → Nat → Prop}

theorem Stb.join1 {k k' : Kind} {g : Nat} (h : Stb w0 w fp k g) : Stb w0 w fp (k.join k') g := by
  cases k <;> cases k' <;> first | exact h | exact ⟨h.1, h.2.1, h.2.2.imp id fun e => ⟨rfl, e.2⟩⟩

theorem optK_rep {fp' : Nat → Nat → Prop} {f : PV → Option (Kind × TL)} (hf : ∀ p k x v, f p = some (k, x) → PVRep w φ (Stb w0 w fp) p v → TRep w (Stb w0 w fp' k) x v) : ∀ {ps : List PV} {k : Kind} {xs : List TL}, optK f ps = some (k, xs) →
    xs.length = ps.length ∧ ∀ (vs : Nat → Value), (∀ (j : Nat) (p : PV), ps[j]? = some p → PVRep w φ (Stb w0 w fp) p (vs j)) → ∀ (j : Nat) (x : TL), xs[j]? = some x → TRep w (Stb w0 w fp' k) x (vs j)
  | [], k, xs, h => by
    simp only [optK, Option.some.injEq, Prod.mk.injEq] at h
    obtain ⟨rfl, rfl⟩ := h
    exact ⟨rfl, fun vs _ j x hx => by simp at hx⟩
  | p :: ps, k, xs, h => by
    simp only [optK] at h
    split at h
    · rename_i k1 x k2 xs' h1 h2
      simp only [Option.some.injEq, Prod.mk.injEq] at h
      obtain ⟨rfl, rfl⟩ := h
      obtain ⟨hl, hr⟩ := optK_rep hf h2
      refine ⟨by simp [hl], fun vs hv j y hy => ?_⟩
      cases j with
      | zero =>
        simp at hy
        subst hy
        exact (hf p k1 x _ h1 (hv 0 p (by simp))).join k2
      | succ j =>
        rw [Kind.join_comm]
        exact (hr (fun j => vs (j + 1)) (fun j p hp => hv (j + 1) p (by simpa using hp)) j y (by simpa using hy)).join k1
    · cases h

theorem frzT_repZ (h : SimX w0 F0 n s a w φ fp) {sm : StL} {fp' : Nat → Nat → Prop} (hsub : ∀ m, getM sm.M m = getM s.M m ∨ getM sm.M m = .dead) (hfp : ∀ m g, fp' m g → fp m g) (hz : ∀ m, getM sm.M m ≠ .dead → ∀ q g, fp m g → ¬ fp' q g) : ∀ (d : Nat) (p : PV) (k : Kind) (x : TL) (v : Value), frzT d sm p = some (k, x) → PVRep w φ (Stb w0 w fp) p v → TRep w (Stb w0 w fp' k) x v
  | 0, p, k, x, v, hq, _ => by simp [frzT] at hq
  | d + 1, p, k, x, v, hq, hp => by
    have ih := frzT_repZ h hsub hfp hz d
    have hS : ∀ k g, Stb w0 w fp k g → Stb w0 w fp' k g := fun k g hg => ⟨hg.1, fun q h => hg.2.1 q (hfp q g h), hg.2.2⟩
    have hnew : ∀ k m g, getM sm.M m ≠ .dead → fp m g → Stb w0 w fp' k g := fun k m g hm hg => ⟨(h.old m g hg).1, fun q hq => hz m hm q g hg hq, .inl ((h.old m g hg).2.elim (fun e => .inr (h.dfr.2 g e)) .inl)⟩
    cases p with
    | t k' y =>
      cases y with
      | v x' =>
        simp only [frzT, Option.some.injEq, Prod.mk.injEq] at hq
        obtain ⟨rfl, rfl⟩ := hq
        have := hp.t_inv.v_inv
        subst this
        exact .v _
      | sl f sz xs =>
        simp only [frzT, Option.some.injEq, Prod.mk.injEq] at hq
        obtain ⟨rfl, rfl⟩ := hq
        exact hp.t_inv.mono (fun _ _ => rfl) (hS _)
      | rp cs off =>
        simp only [frzT, Option.some.injEq, Prod.mk.injEq] at hq
        obtain ⟨rfl, rfl⟩ := hq
        exact hp.t_inv.mono (fun _ _ => rfl) (hS _)
      | clo f cs =>
        simp only [frzT, Option.some.injEq, Prod.mk.injEq] at hq
        obtain ⟨rfl, rfl⟩ := hq
        exact hp.t_inv.mono (fun _ _ => rfl) (hS _)
      | agg cs =>
        simp only [frzT, Option.some.injEq, Prod.mk.injEq] at hq
        obtain ⟨rfl, rfl⟩ := hq
        exact hp.t_inv.mono (fun _ _ => rfl) (hS _)
      | tup cs =>
        simp only [frzT, Option.some.injEq, Prod.mk.injEq] at hq
        obtain ⟨rfl, rfl⟩ := hq
        exact hp.t_inv.mono (fun _ _ => rfl) (hS _)
    | osl m =>
      simp only [frzT] at hq
      split at hq
      · rename_i ty sz k' xs hM
        cases hq
        cases hp with
        | @osl _ len cap ao hφ =>
        have hne : getM sm.M m ≠ .dead := by rw [hM]; intro h; cases h
        have hres := h.res m
        rw [← (hsub m).resolve_right hne, hM] at hres
        obtain ⟨cells, hown, hbd, hlen, hrep⟩ := hres
        rw [hφ] at hown
        rcases hown with ⟨hown, hF⟩ | ⟨rfl, ⟨ao', hv⟩, _⟩
        · rcases hown.2 with ⟨hv, hz⟩ | ⟨g, cap', cur, hv, _, hh, hle, _, _⟩
          · cases hv
            have hx : xs = [] := List.eq_nil_of_length_eq_zero hz
            subst hx
            exact .sl (cap := 0) (fun _ _ => Go.undef) (Nat.le_refl _) (by simp) (by simp) (by simp) (by simp) (.inl rfl) (by simp) (fun i j e x he => by simp at he)
          · cases hv
            refine .sl (fun i j => cells.getD (i * sz + j) Go.undef) hle (by simp) (by simp) (by simp) hbd (.inr ⟨g, 0, rfl, hnew _ m g hne ((hF g).2 rfl), fun i j hi hj => ?_⟩) hlen fun i j e x he hx => (hrep i j e x he hx).mono (fun _ _ => rfl) (hS _)
            have hidx : i * sz + j < cells.length := by
              rw [hown.1]
              have : (i + 1) * sz ≤ xs.length * sz := Nat.mul_le_mul_right _ hi
              rw [Nat.add_mul] at this
              omega
            have h1 := hown.cells (g := g) rfl (i * sz + j) _ (List.getElem?_eq_getElem hidx)
            rw [addr_add, Nat.zero_add] at h1
            rw [Nat.zero_add, h1, List.getD_eq_getElem?_getD, List.getElem?_eq_getElem hidx]
            rfl
        · cases hv
          exact .sl (cap := 0) (fun _ _ => Go.undef) (Nat.le_refl _) (by simp) (by simp) (by simp) (by simp) (.inl rfl) (by simp) (fun i j e x he => by simp at he)
      · cases hq
    | ptr m off =>
      simp only [frzT] at hq
      split at hq
      · rename_i ty cs hM
        split at hq
        · rename_i k' xs hxs
          cases hq
          cases hp with
          | @ptr _ _ g hφ =>
          have hne : getM sm.M m ≠ .dead := by rw [hM]; intro h; cases h
          have hres := h.res m
          rw [← (hsub m).resolve_right hne, hM] at hres
          obtain ⟨g', vs, hv, hF, hh, hs, hr⟩ := hres
          rw [hφ] at hv
          cases hv
          obtain ⟨hl, hr'⟩ := optK_rep (fun p k x v => ih p k x v) hxs
          have := TRep.rp (w := w) (S := Stb w0 w fp' k) (cs := xs) (off := off) (b := g) (o := 0) (fun j => vs.getD j Go.undef) (hnew _ m g hne ((hF g).2 rfl)) (fun j hj => by
            rw [Nat.zero_add, cell_of_row w g j vs ty (0, 0) hh]
            have : j < vs.size := by omega
            simp [this]) (fun j x hx => hr' (fun j => vs.getD j Go.undef) hr j x hx)
          rwa [Nat.zero_add] at this
        · cases hq
      · cases hq
    | clo f caps =>
      simp only [frzT] at hq
      split at hq
      · rename_i b' xs hxs
        cases hq
        cases hp with
        | clo vs hs hr =>
        obtain ⟨hl, hr'⟩ := optK_rep (fun p k x v => ih p k x v) hxs
        exact .clo vs (by omega) fun j x hx => hr' (fun j => vs.getD j Go.undef) hr j x hx
      · cases hq
    | agg cs =>
      simp only [frzT] at hq
      split at hq
      · rename_i b' xs hxs
        cases hq
        cases hp with
        | agg vs hs hr =>
        obtain ⟨hl, hr'⟩ := optK_rep (fun p k x v => ih p k x v) hxs
        exact .agg vs (by omega) fun j x hx => hr' (fun j => vs.getD j Go.undef) hr j x hx
      · cases hq
    | tup cs =>
      simp only [frzT] at hq
      split at hq
      · rename_i b' xs hxs
        cases hq
        cases hp with
        | tup vs hs hr =>
        obtain ⟨hl, hr'⟩ := optK_rep (fun p k x v => ih p k x v) hxs
        exact .tup vs (by omega) fun j x hx => hr' (fun j => vs.getD j Go.undef) hr j x hx
      · cases hq
    | oep => simp [frzT] at hq
    | omp => simp [frzT] at hq
    | osv => simp [frzT] at hq
    | undef => simp [frzT] at hq

theorem frzT_rep (h : SimX w0 F0 n s a w φ fp) (hF0 : ∀ g, F0 g → w0.F g) (d : Nat) (p : PV) (k : Kind) (x : TL) (v : Value) (hq : frzT d s p = some (k, x)) (hp : PVRep w φ (Stb w0 w fp) p v) : TRep w (Stb w0 w (fun _ _ => False) k) x v :=
  frzT_repZ h (fun _ => .inl rfl) (fun _ _ h => h.elim) (fun _ _ _ _ _ h => h) d p k x v hq hp

def restM (z : List Nat) (M : List (Nat × Res)) : List (Nat × Res) := M.filter fun p => z.contains p.1
def frzQ (z : List Nat) (s : StL) (p : PV) : PV := if z.any (fun m => p.men m) then (match frzT 6 ⟨s.T, restM z s.M⟩ p with
  | some (k, x) => .t k x
  | none => .undef) else p
def Res.frzQ (z : List Nat) (s : StL) : Res → Res
  | .blk ty cs => .blk ty (cs.map (PS.frzQ z s))
  | r => r
/-- The names z are given up. -/
def frzZ (z : List Nat) (s : StL) : StL := ⟨s.T.map fun p => (p.1, frzQ z s p.2), (s.M.filter fun p => !z.contains p.1).map fun p => (p.1, p.2.frzQ z s)⟩

theorem getM_filter (f : Nat → Bool) : ∀ (M : List (Nat × Res)) (m : Nat), getM (M.filter fun p => f p.1) m = if f m then getM M m else .dead
  | [], m => by simp [getM]
  | (k, r) :: M, m => by
    have ih := getM_filter f M m
    simp only [List.filter_cons]
    cases hk : f k with
    | true =>
      simp only [if_true, getM, ih]
      by_cases e : k = m
      · subst e; simp [hk]
      · simp [e]
    | false =>
      simp only [Bool.false_eq_true, if_false, getM, ih]
      by_cases e : k = m
      · subst e; simp [hk]
      · simp [e]
theorem getM_mapR (f : Res → Res) (hf : f .dead = .dead) : ∀ (M : List (Nat × Res)) (m : Nat), getM (M.map fun p => (p.1, f p.2)) m = f (getM M m)
  | [], m => hf.symm
  | (k, r) :: M, m => by
    simp only [List.map_cons, getM]
    split
    · rfl
    · exact getM_mapR f hf M m
theorem getT_mapP (f : PV → PV) (hf : f .undef = .undef) : ∀ (T : List (Nat × PV)) (t : Nat), getT (T.map fun p => (p.1, f p.2)) t = f (getT T t)
  | [], t => hf.symm
  | (k, p) :: T, t => by
    simp only [List.map_cons, getT]
    split
    · rfl
    · exact getT_mapP f hf T t

theorem frzQ_rep (h : SimX w0 F0 n s a w φ fp) (z : List Nat) {p : PV} {v : Value} (hp : PVRep w φ (Stb w0 w fp) p v) : PVRep w φ (Stb w0 w (fun m g => fp m g ∧ z.contains m = false)) (frzQ z s p) v := by
  have hS : ∀ k g, Stb w0 w fp k g → Stb w0 w (fun m g => fp m g ∧ z.contains m = false) k g := fun k g hg => ⟨hg.1, fun q hq => hg.2.1 q hq.1, hg.2.2⟩
  have er : ∀ m, getM (restM z s.M) m = if z.contains m then getM s.M m else .dead := fun m => getM_filter (fun m => z.contains m) s.M m
  unfold frzQ
  split
  · split
    · rename_i k x hx
      refine .t (frzT_repZ h (sm := ⟨s.T, restM z s.M⟩) (fun m => ?_) (fun _ _ h => h.1) (fun m hm q g h1 h2 => ?_) 6 p k x v hx hp)
      · show getM (restM z s.M) m = _ ∨ getM (restM z s.M) m = _
        rw [er m]
        split
        · exact .inl rfl
        · exact .inr rfl
      · have hm' : getM (restM z s.M) m ≠ .dead := hm
        rw [er m] at hm'
        have := h.disj m q g h1 h2.1
        subst this
        rw [h2.2] at hm'
        simp at hm'
    · exact .undef _
  · exact hp.mono (fun _ _ _ => rfl) hS

theorem frzZ_sim (h : SimX w0 F0 n s a w φ fp) (z : List Nat) : SimX w0 F0 n (frzZ z s) a w φ (fun m g => fp m g ∧ z.contains m = false) := by
  have hS : ∀ k g, Stb w0 w fp k g → Stb w0 w (fun m g => fp m g ∧ z.contains m = false) k g := fun k g hg => ⟨hg.1, fun q hq => hg.2.1 q hq.1, hg.2.2⟩
  refine ⟨fun m => ?_, fun m m' g h1 h2 => h.disj m m' g h1.1 h2.1, fun m g hm => h.old m g hm.1, fun t => ?_, h.evo, h.size, h.dfr, h.fix⟩
  · have e : getM (frzZ z s).M m = Res.frzQ z s (if !z.contains m then getM s.M m else .dead) := by
      show getM ((s.M.filter fun p => !z.contains p.1).map fun p => (p.1, p.2.frzQ z s)) m = _
      rw [getM_mapR (Res.frzQ z s) rfl, getM_filter (fun m => !z.contains m) s.M m]
    rw [e]
    cases hz : z.contains m with
    | true => exact fun g hg => by simp at hg
    | false =>
      simp only [Bool.not_false, if_true]
      have hF : (fun g => fp m g ∧ True) = fp m := by funext g; simp
      rw [hF]
      have := h.res m
      revert this
      cases getM s.M m with
      | dead => exact fun h => h
      | row => exact fun hr => hr.keep (fun _ _ => rfl) (fun _ _ _ => rfl) hS
      | tab => exact fun hr => hr.keep (fun _ _ => rfl) (fun _ _ _ => rfl) hS
      | iter => exact fun hr => hr.keep (fun _ _ => rfl) (fun _ _ _ => rfl) hS
      | junk => exact fun h => h
      | blk ty cs =>
        rintro ⟨g, vs, hv, hF, hh, hs, hr⟩
        refine ⟨g, vs, hv, hF, hh, by simpa using hs, fun j x hx => ?_⟩
        rw [List.getElem?_map] at hx
        obtain ⟨y, hy, rfl⟩ := Option.map_eq_some_iff.1 hx
        exact frzQ_rep h z (hr j y hy)
  · show PVRep _ _ _ (getT (s.T.map fun p => (p.1, frzQ z s p.2)) t) _
    rw [getT_mapP (frzQ z s) (by simp [frzQ, PV.men])]
    exact frzQ_rep h z (h.tmp t)

end
end Go.PS
