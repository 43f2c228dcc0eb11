import Derived.Laws.IdiomStrings
import Derived.Laws.BytesArg
import Derived.Maps.RangeRun
import Derived.MapKept
import Derived.WalkKit
import Derived.ChangeKeysEq
import Derived.Deep.WholeRow
import Derived.Maps.AppendAt
import Derived.Lib.SliceRun
import Derived.Laws.MakeOwn
import Derived.Laws.CopyOwn
import Derived.Laws.StructEq
import Derived.WideKeyRuns
import Derived.Deep.Upon
import Derived.Lib.UnsafeStr
import Derived.Lib.AppendStr
set_option linter.unusedVariables false
set_option linter.unusedSimpArgs false
/- PS1: trees, values with names, and how a world represents them. No program in sight. -/
namespace Go.PS
open Go

/-- What is known of a slice's capacity and of whether it is nil. -/
inductive SF where | any | tight | nn
  deriving DecidableEq

/-- Data without names: what never changes while it is looked at. -/
inductive TL where
  | v (x : Value)
  | sl (t : SF) (sz : Nat) (xs : List (List TL))
  | rp (cs : List TL) (off : Nat)
  | clo (f : Nat) (caps : List TL)
  | agg (cs : List TL)
  | tup (cs : List TL)
  | mp (es : List (Value × TL))
  | one

/-- A world represents a tree by a value; all memory that it reads lies in S. -/
inductive TRep (w : World) (S : Nat → Prop) : TL → Value → Prop
  | v (x : Value) : TRep w S (.v x) x
  | sl {t : SF} {sz : Nat} {xs : List (List TL)} {a : Option Addr} {cap : Nat} (g : Nat → Nat → Value)
      (hcap : xs.length ≤ cap) (ht : t = .tight → cap = xs.length) (hnn : t = .nn → a ≠ none) (hnil : a = none → cap = 0) (hbd : xs.length ≤ 140737488355328)
      (ha : xs = [] ∨ ∃ b o, a = some ⟨b, o, none⟩ ∧ S b ∧ ∀ i j, i < xs.length → j < sz → w.cell? ⟨b, o + (i * sz + j), none⟩ = some (g i j))
      (hlen : ∀ e ∈ xs, e.length = sz)
      (hrep : ∀ (i j : Nat) (e : List TL) (x : TL), xs[i]? = some e → e[j]? = some x → TRep w S x (g i j)) :
      TRep w S (.sl t sz xs) (.slice a xs.length cap)
  | rp {cs : List TL} {off b o : Nat} (g : Nat → Value) (hb : S b)
      (hc : ∀ j, j < cs.length → w.cell? ⟨b, o + j, none⟩ = some (g j))
      (hrep : ∀ (j : Nat) (x : TL), cs[j]? = some x → TRep w S x (g j)) :
      TRep w S (.rp cs off) (.pointer (some ⟨b, o + off, none⟩))
  | clo {f : Nat} {caps : List TL} (vs : Array Value) (hs : vs.size = caps.length)
      (hrep : ∀ (j : Nat) (x : TL), caps[j]? = some x → TRep w S x (vs.getD j undef)) :
      TRep w S (.clo f caps) (.func (.func f) #[] vs)
  | agg {cs : List TL} (vs : Array Value) (hs : vs.size = cs.length)
      (hrep : ∀ (j : Nat) (x : TL), cs[j]? = some x → TRep w S x (vs.getD j undef)) :
      TRep w S (.agg cs) (.agg vs)
  | tup {cs : List TL} (vs : Array Value) (hs : vs.size = cs.length)
      (hrep : ∀ (j : Nat) (x : TL), cs[j]? = some x → TRep w S x (vs.getD j undef)) :
      TRep w S (.tup cs) (.tuple vs)
  | mp {es : List (Value × TL)} {r : Nat} {ents : Array MapEntry} (hb : S r) (hc : w.heap[r]? = some (.map ents es.length)) (hsz : ents.toList.length = es.length)
      (hk : ∀ (i : Nat) (p : Value × TL) (e : MapEntry), es[i]? = some p → ents.toList[i]? = some e → e.key = p.1 ∧ e.born = i)
      (hrep : ∀ (i : Nat) (p : Value × TL) (e : MapEntry), es[i]? = some p → ents.toList[i]? = some e → TRep w S p.2 e.val) :
      TRep w S (.mp es) (.map (some r))
  | one {v : Value} (h : v.oneCell' = true) : TRep w S .one v

theorem TRep.mono {w w' : World} {S S' : Nat → Prop} (hc : ∀ g, S g → w'.heap[g]? = w.heap[g]?) (hS : ∀ g, S g → S' g) {x : TL} {v : Value} (h : TRep w S x v) : TRep w' S' x v := by
  induction h with
  | v x => exact .v x
  | sl g hcap ht hnn hnil hbd ha hlen hrep ih =>
    refine .sl g hcap ht hnn hnil hbd ?_ hlen ih
    rcases ha with ha | ⟨b, o, ha, hb, hcell⟩
    · exact .inl ha
    · exact .inr ⟨b, o, ha, hS _ hb, fun i j hi hj => (World.cell?_of_block (w := w) (hc b hb)).trans (hcell i j hi hj)⟩
  | rp g hb hcell hrep ih => exact .rp g (hS _ hb) (fun j hj => (World.cell?_of_block (w := w) (hc _ hb)).trans (hcell j hj)) ih
  | clo vs hs hrep ih => exact .clo vs hs ih
  | agg vs hs hrep ih => exact .agg vs hs ih
  | tup vs hs hrep ih => exact .tup vs hs ih
  | mp hb hcell hsz hk hrep ih => exact .mp (hS _ hb) ((hc _ hb).trans hcell) hsz hk ih
  | one h => exact .one h

inductive Kind where | ro | fz
  deriving DecidableEq

/-- What a temporary or a cell of the call's own holds. -/
inductive PV where
  | t (k : Kind) (x : TL)
  | ptr (n off : Nat)
  | osl (n : Nat)
  | oep (n sz i off : Nat)
  | clo (f : Nat) (caps : List PV)
  | agg (cs : List PV)
  | tup (cs : List PV)
  | omp (n : Nat)
  | osv (n sz lo len : Nat)
  | mx (n k i j : Nat)
  | undef

/-- Memory of the call's own, by name. -/
inductive Res where
  | dead
  | blk (ty : Nat) (cs : List PV)
  | row (ty sz : Nat) (k : Kind) (xs : List (List TL))
  | tab (k : Kind) (es : List (Value × TL))
  | mat (t0 t1 : Nat) (X : List (List Int))
  | iter (mn n : Nat) (seen : List Nat)
  | junk

mutual
def PV.men (m : Nat) : PV → Bool
  | .t _ _ => false
  | .ptr n _ => n == m
  | .osl n => n == m
  | .oep n _ _ _ => n == m
  | .omp n => n == m
  | .osv n _ _ _ => n == m
  | .mx n _ _ _ => n == m
  | .clo _ caps => PV.menL m caps
  | .agg cs => PV.menL m cs
  | .tup cs => PV.menL m cs
  | .undef => false
def PV.menL (m : Nat) : List PV → Bool
  | [] => false
  | x :: l => PV.men m x || PV.menL m l
end
theorem PV.menL_get {m : Nat} : ∀ {l : List PV} {j : Nat} {x : PV}, l[j]? = some x → PV.menL m l = false → x.men m = false
  | [], j, x, h, _ => by simp at h
  | y :: l, 0, x, h, hm => by
    simp [PV.menL] at h hm
    subst h
    exact hm.1
  | y :: l, j + 1, x, h, hm => by
    simp only [PV.menL, Bool.or_eq_false_iff] at hm
    exact PV.menL_get (by simpa using h) hm.2

def Res.men (m : Nat) : Res → Bool
  | .dead => false
  | .blk _ cs => PV.menL m cs
  | .iter mn _ _ => mn == m
  | _ => false

/-- What the name of a matrix stands for: the slice of its rows, a row, the place of an element, the place of a row. -/
def ptrAt : Option Value → Nat → Option Value
  | some (.slice (some a) _ _), j => some (.pointer (some ⟨a.block, j, none⟩))
  | _, _ => none
def mxV : Value → Nat → Nat → Nat → Option Value
  | .agg vs, 0, _, _ => vs[0]?
  | .agg vs, 1, i, _ => vs[i + 1]?
  | .agg vs, 2, i, j => ptrAt vs[i + 1]? j
  | .agg vs, 3, i, _ => ptrAt vs[0]? i
  | .pointer (some ⟨g, 0, none⟩), 5, i, _ => some (.slice (some ⟨g, 0, none⟩) i i)
  | _, _, _, _ => none
theorem mxV5 {v u : Value} {i j : Nat} (h : mxV v 5 i j = some u) : ∃ g, v = .pointer (some ⟨g, 0, none⟩) ∧ u = .slice (some ⟨g, 0, none⟩) i i := by
  unfold mxV at h
  split at h
  all_goals first | (simp at *; done) | skip
  cases h
  exact ⟨_, rfl, rfl⟩
inductive PVRep (w : World) (φ : Nat → Value) (St : Kind → Nat → Prop) : PV → Value → Prop
  | t {k : Kind} {x : TL} {v : Value} (h : TRep w (St k) x v) : PVRep w φ St (.t k x) v
  | ptr {n off g : Nat} (h : φ n = .pointer (some ⟨g, 0, none⟩)) : PVRep w φ St (.ptr n off) (.pointer (some ⟨g, off, none⟩))
  | osl {n len cap : Nat} {ao : Option Addr} (h : φ n = .slice ao len cap) : PVRep w φ St (.osl n) (.slice ao len cap)
  | oep {n sz i off g len cap : Nat} (h : φ n = .slice (some ⟨g, 0, none⟩) len cap) : PVRep w φ St (.oep n sz i off) (.pointer (some ⟨g, i * sz + off, none⟩))
  | omp {n : Nat} {r : Option Nat} (h : φ n = .map r) : PVRep w φ St (.omp n) (.map r)
  | osv {n sz lo len g l c cap : Nat} (h : φ n = .slice (some ⟨g, 0, none⟩) l c) (hc : len ≤ cap) : PVRep w φ St (.osv n sz lo len) (.slice (some ⟨g, lo * sz, none⟩) len cap)
  | mx {n k i j : Nat} {v : Value} (h : mxV (φ n) k i j = some v) : PVRep w φ St (.mx n k i j) v
  | clo {f : Nat} {caps : List PV} (vs : Array Value) (hs : vs.size = caps.length)
      (hrep : ∀ (j : Nat) (x : PV), caps[j]? = some x → PVRep w φ St x (vs.getD j Go.undef)) :
      PVRep w φ St (.clo f caps) (.func (.func f) #[] vs)
  | agg {cs : List PV} (vs : Array Value) (hs : vs.size = cs.length)
      (hrep : ∀ (j : Nat) (x : PV), cs[j]? = some x → PVRep w φ St x (vs.getD j Go.undef)) :
      PVRep w φ St (.agg cs) (.agg vs)
  | tup {cs : List PV} (vs : Array Value) (hs : vs.size = cs.length)
      (hrep : ∀ (j : Nat) (x : PV), cs[j]? = some x → PVRep w φ St x (vs.getD j Go.undef)) :
      PVRep w φ St (.tup cs) (.tuple vs)
  | undef (v : Value) : PVRep w φ St .undef v

theorem PVRep.mono {w w' : World} {φ : Nat → Value} {St St' : Kind → Nat → Prop} (hc : ∀ k g, St k g → w'.heap[g]? = w.heap[g]?) (hS : ∀ k g, St k g → St' k g) {x : PV} {v : Value} (h : PVRep w φ St x v) : PVRep w' φ St' x v := by
  induction h with
  | t h => exact .t (h.mono (hc _) (hS _))
  | ptr h => exact .ptr h
  | osl h => exact .osl h
  | oep h => exact .oep h
  | omp h => exact .omp h
  | osv h hc => exact .osv h hc
  | mx h => exact .mx h
  | clo vs hs hrep ih => exact .clo vs hs ih
  | agg vs hs hrep ih => exact .agg vs hs ih
  | tup vs hs hrep ih => exact .tup vs hs ih
  | undef v => exact .undef v

theorem PVRep.rename {w : World} {φ φ' : Nat → Value} {St : Kind → Nat → Prop} {x : PV} {v : Value} (h : PVRep w φ St x v) : (∀ m, x.men m = true → φ' m = φ m) → PVRep w φ' St x v := by
  induction h with
  | t h => exact fun _ => .t h
  | ptr h => exact fun hm => .ptr ((hm _ (by simp [PV.men])).trans h)
  | osl h => exact fun hm => .osl ((hm _ (by simp [PV.men])).trans h)
  | oep h => exact fun hm => .oep ((hm _ (by simp [PV.men])).trans h)
  | omp h => exact fun hm => .omp ((hm _ (by simp [PV.men])).trans h)
  | osv h hc => exact fun hm => .osv ((hm _ (by simp [PV.men])).trans h) hc
  | mx h => exact fun hm => .mx (by rw [hm _ (by simp [PV.men])]; exact h)
  | clo vs hs hrep ih =>
    intro hm
    refine .clo vs hs fun j x hx => ih j x hx fun m hxm => hm m ?_
    cases hb : PV.menL m _ with
    | true => simpa [PV.men] using hb
    | false => rw [PV.menL_get hx hb] at hxm; cases hxm
  | agg vs hs hrep ih =>
    intro hm
    refine .agg vs hs fun j x hx => ih j x hx fun m hxm => hm m ?_
    cases hb : PV.menL m _ with
    | true => simpa [PV.men] using hb
    | false => rw [PV.menL_get hx hb] at hxm; cases hxm
  | tup vs hs hrep ih =>
    intro hm
    refine .tup vs hs fun j x hx => ih j x hx fun m hxm => hm m ?_
    cases hb : PV.menL m _ with
    | true => simpa [PV.men] using hb
    | false => rw [PV.menL_get hx hb] at hxm; cases hxm
  | undef v => exact fun _ => .undef v

/-- A map's entries. -/
def EntR (w : World) (S : Nat → Prop) : Nat → List (Value × TL) → List MapEntry → Prop
  | _, [], [] => True
  | i, p :: es, e :: l => e.key = p.1 ∧ e.born = i ∧ TRep w S p.2 e.val ∧ EntR w S (i + 1) es l
  | _, _, _ => False
theorem EntR.mono {w w' : World} {S S' : Nat → Prop} (hc : ∀ g, S g → w'.heap[g]? = w.heap[g]?) (hS : ∀ g, S g → S' g) : ∀ {i : Nat} {es : List (Value × TL)} {l : List MapEntry}, EntR w S i es l → EntR w' S' i es l
  | _, [], [], h => h
  | i, p :: es, e :: l, h => ⟨h.1, h.2.1, h.2.2.1.mono hc hS, EntR.mono hc hS h.2.2.2⟩
  | _, [], _ :: _, h => h.elim
  | _, _ :: _, [], h => h.elim

/-- A matrix's row. -/
def RowOf (w : World) (F : Nat → Prop) (g0 t1 g : Nat) (u : Option Value) (r : List Int) : Prop :=
  (r = [] ∧ u = some (.slice none 0 0)) ∨ ∃ (cap : Nat) (cur : Array Value), r ≠ [] ∧ u = some (.slice (some ⟨g, 0, none⟩) r.length cap) ∧ r.length ≤ cap ∧ r.length ≤ 140737488355328 ∧ F g ∧ g ≠ g0 ∧
    w.heap[g]? = some (.cells cur t1 (0, 0)) ∧ ∀ (j : Nat) (x : Int), r[j]? = some x → cur[j]? = some (.int .i64 x)
/-- A matrix: a slice of slices, each in a block of its own. -/
def MatRep (w : World) (t0 t1 : Nat) (X : List (List Int)) (v : Value) (F : Nat → Prop) : Prop :=
  ∃ (vs : Array Value) (g0 cap0 : Nat) (c0 : Array Value) (G : Nat → Nat), v = .agg vs ∧ vs.size = X.length + 1 ∧ vs[0]? = some (.slice (some ⟨g0, 0, none⟩) X.length cap0) ∧ X.length ≤ cap0 ∧ X.length ≤ 140737488355328 ∧ F g0 ∧
    w.heap[g0]? = some (.cells c0 t0 (0, 0)) ∧ (∀ i, i < X.length → c0[i]? = vs[i + 1]?) ∧
    (∀ (i i' : Nat) (r r' : List Int), X[i]? = some r → X[i']? = some r' → r ≠ [] → r' ≠ [] → G i = G i' → i = i') ∧ ∀ (i : Nat) (r : List Int), X[i]? = some r → RowOf w F g0 t1 (G i) vs[i + 1]? r
theorem RowOf.keep {w w' : World} {F : Nat → Prop} {g0 t1 g : Nat} {u : Option Value} {r : List Int} (hF : ∀ g, F g → w'.heap[g]? = w.heap[g]?) (h : RowOf w F g0 t1 g u r) : RowOf w' F g0 t1 g u r := by
  rcases h with h | ⟨cap, cur, h1, h2, h3, h4, h5, h6, h7, h8⟩
  · exact .inl h
  · exact .inr ⟨cap, cur, h1, h2, h3, h4, h5, h6, (hF _ h5).trans h7, h8⟩
theorem MatRep.keep {w w' : World} {t0 t1 : Nat} {X : List (List Int)} {v : Value} {F : Nat → Prop} (hF : ∀ g, F g → w'.heap[g]? = w.heap[g]?) (h : MatRep w t0 t1 X v F) : MatRep w' t0 t1 X v F := by
  obtain ⟨vs, g0, cap0, c0, G, h1, h2, h3, h4, h5, h6, h7, h8, h9, h10⟩ := h
  exact ⟨vs, g0, cap0, c0, G, h1, h2, h3, h4, h5, h6, (hF _ h6).trans h7, h8, h9, fun i r hr => (h10 i r hr).keep hF⟩
/-- A matrix as a tree. -/
def mxT (X : List (List Int)) : TL := .sl .any 1 (X.map fun r => [.sl .any 1 (r.map fun x => [.v (.int .i64 x)])])
theorem MatRep.tree {w : World} {t0 t1 : Nat} {X : List (List Int)} {v u : Value} {F S : Nat → Prop} {i j : Nat} (h : MatRep w t0 t1 X v F) (hS : ∀ g, F g → S g) (hu : mxV v 0 i j = some u) : TRep w S (mxT X) u := by
  obtain ⟨vs, g0, cap0, c0, G, rfl, h2, h3, h4, h5, h6, h7, h8, h9, h10⟩ := h
  have hu' : vs[0]? = some u := hu
  rw [h3] at hu'
  cases hu'
  have hl : (X.map fun r => [TL.sl .any 1 (r.map fun x => [TL.v (.int .i64 x)])]).length = X.length := by simp
  have := TRep.sl (w := w) (S := S) (t := .any) (sz := 1) (xs := X.map fun r => [TL.sl .any 1 (r.map fun x => [TL.v (.int .i64 x)])]) (a := some ⟨g0, 0, none⟩) (cap := cap0) (fun i _ => vs.getD (i + 1) Go.undef) (by rw [hl]; exact h4) (by simp) (by simp) (by simp) (by rw [hl]; exact h5)
    (.inr ⟨g0, 0, rfl, hS _ h6, fun i j hi hj => by
      rw [hl] at hi
      have e : 0 + (i * 1 + j) = i := by omega
      have hlt : i + 1 < vs.size := by omega
      rw [e, cell_of_row w g0 i c0 t0 (0, 0) h7, h8 i hi]
      simp [Array.getD_eq_getD_getElem?, hlt]⟩)
    (by simp) (fun i j e x he hx => by
      rw [List.getElem?_map] at he
      obtain ⟨r, hr, rfl⟩ := Option.map_eq_some_iff.1 he
      have hj : j = 0 := by
        cases j with
        | zero => rfl
        | succ j => simp at hx
      subst hj
      simp at hx
      subst hx
      have hi : i < X.length := (List.getElem?_eq_some_iff.1 hr).1
      have hlt : i + 1 < vs.size := by omega
      have hg : vs.getD (i + 1) Go.undef = vs[i + 1] := by simp [Array.getD_eq_getD_getElem?, hlt]
      rw [hg]
      have hge : vs[i + 1]? = some vs[i + 1] := Array.getElem?_eq_getElem hlt
      rcases h10 i r hr with ⟨rfl, hn⟩ | ⟨cap, cur, _, h12, h13, h14, h15, h16, h17, h18⟩
      · rw [hge] at hn
        have hn' := Option.some.inj hn
        rw [hn']
        exact .sl (cap := 0) (fun _ _ => Go.undef) (Nat.le_refl _) (by simp) (by simp) (by simp) (by simp) (.inl rfl) (by simp) (fun i j e x he => by simp at he)
      · rw [hge] at h12
        have hn' := Option.some.inj h12
        rw [hn']
        have hl2 : (r.map fun x => [TL.v (.int .i64 x)]).length = r.length := by simp
        have := TRep.sl (w := w) (S := S) (t := .any) (sz := 1) (xs := r.map fun x => [TL.v (.int .i64 x)]) (a := some ⟨G i, 0, none⟩) (cap := cap) (fun j _ => cur.getD j Go.undef) (by rw [hl2]; exact h13) (by simp) (by simp) (by simp) (by rw [hl2]; exact h14)
          (.inr ⟨G i, 0, rfl, hS _ h15, fun a b ha hb => by
            rw [hl2] at ha
            have e : 0 + (a * 1 + b) = a := by omega
            have hc := h18 a r[a] (List.getElem?_eq_getElem ha)
            rw [e, cell_of_row w (G i) a cur t1 (0, 0) h17, hc]
            simp [Array.getD_eq_getD_getElem?, hc]⟩)
          (by simp) (fun a b e x he hx => by
            rw [List.getElem?_map] at he
            obtain ⟨y, hy, rfl⟩ := Option.map_eq_some_iff.1 he
            have hb : b = 0 := by
              cases b with
              | zero => rfl
              | succ b => simp at hx
            subst hb
            simp at hx
            subst hx
            have hc := h18 a y hy
            simp [Array.getD_eq_getD_getElem?, hc]
            exact .v _)
        rw [hl2] at this
        exact this)
  rw [hl] at this
  exact this
/-- A name's memory, in block F. -/
def ResRep (w : World) (φ : Nat → Value) (St : Kind → Nat → Prop) (r : Res) (v : Value) (F : Nat → Prop) : Prop :=
  match r with
  | .dead => ∀ g, ¬ F g
  | .blk ty cs => ∃ g vs, v = .pointer (some ⟨g, 0, none⟩) ∧ (∀ h, F h ↔ h = g) ∧ w.heap[g]? = some (.cells vs ty (0, 0)) ∧ vs.size = cs.length ∧
      ∀ (j : Nat) (x : PV), cs[j]? = some x → PVRep w φ St x (vs.getD j Go.undef)
  | .row ty sz k xs => ∃ cells : List Value, ((w.ownsRow 0 ty sz v xs.length cells ∧ ∀ h, F h ↔ v.ownBlock = some h) ∨ (xs = [] ∧ (∃ ao, v = .slice ao 0 0) ∧ ∀ h, ¬ F h)) ∧ xs.length ≤ 140737488355328 ∧ (∀ e ∈ xs, e.length = sz) ∧
      ∀ (i j : Nat) (e : List TL) (x : TL), xs[i]? = some e → e[j]? = some x → TRep w (St k) x (cells.getD (i * sz + j) Go.undef)
  | .tab k es => ∃ r ents, v = .map (some r) ∧ (∀ h, F h ↔ h = r) ∧ w.heap[r]? = some (.map ents es.length) ∧ EntR w (St k) 0 es ents.toList
  | .mat t0 t1 X => MatRep w t0 t1 X v F
  | .iter mn n seen => ∃ g r seenA, v = .pointer (some ⟨g, 0, none⟩) ∧ (∀ h, F h ↔ h = g) ∧ φ mn = .map (some r) ∧ w.heap[g]? = some (.mapIter (some r) n seenA n) ∧ seenA.toList.reverse = seen ∧ ∀ i ∈ seen, i < n
  | .junk => True

/-- Below block w0.w.heap.size nothing has turned but in F0. -/
structure Evo (F0 : Nat → Prop) (w0 w : World) : Prop where
  os : w.os = w0.os
  tape : w.tape = w0.tape
  output : w.output = w0.output
  size : w0.heap.size ≤ w.heap.size
  block : ∀ g, g < w0.heap.size → ¬ F0 g → w.heap[g]? = w0.heap[g]?

theorem Evo.refl (F0 : Nat → Prop) (w : World) : Evo F0 w w := ⟨rfl, rfl, rfl, Nat.le_refl _, fun _ _ _ => rfl⟩

/-- What the package-level tables hold that the program reads. -/
def glT : Nat → Option (List Value) := fun _ => none
/-- Variables of one cell that are there, whatever they hold. -/
def glU : Nat → Bool := fun g => g == 1
/-- Where a call began: the world, and what its arguments may read. -/
structure Base where
  w : World
  S : Nat → Prop
  F : Nat → Prop
  fix : Nat → Value
  dfr : List Deferred
abbrev Base.on (w : World) (S : Nat → Prop) (φ : Nat → Value) (fp : Nat → Nat → Prop) : Base := ⟨w, S, fun g => ∃ m, fp m g, φ, []⟩
abbrev Base.of (w : World) (S : Nat → Prop) : Base := ⟨w, S, fun _ => False, fun _ => Go.undef, []⟩

/-- The tables are there, and nobody lends them. -/
def GlobS (w0 : Base) : Prop := (∀ (g : Nat) (vs : List Value), glT g = some vs → w0.S g ∧ g < w0.w.heap.size ∧ ¬ w0.F g ∧ ∀ (j : Nat) (x : Value), vs[j]? = some x → w0.w.cell? ⟨g, j, none⟩ = some x) ∧
  ∀ g : Nat, glU g = true → w0.S g ∧ g < w0.w.heap.size ∧ ¬ w0.F g ∧ ∃ x : Value, x.oneCell' = true ∧ w0.w.cell? ⟨g, 0, none⟩ = some x
/-- What stays as it is: not of the call's own; of kind fz: made by this call. -/
def Stb (w0 : Base) (w : World) (fp : Nat → Nat → Prop) (k : Kind) (g : Nat) : Prop :=
  g < w.heap.size ∧ (∀ m, ¬ fp m g) ∧ ((w0.w.heap.size ≤ g ∨ w0.F g) ∨ (k = .ro ∧ w0.S g))

theorem Stb.inv {w w' : World} {S : Nat → Prop} {fp : Nat → Nat → Prop} {k : Kind} {g : Nat} (h : Stb (Base.of w S) w' fp k g) : w.heap.size ≤ g ∨ (k = .ro ∧ S g) := h.2.2.imp (fun h => h.resolve_right fun h => h) id

def getT : List (Nat × PV) → Nat → PV
  | [], _ => .undef
  | (k, p) :: l, t => if k = t then p else getT l t

def getM : List (Nat × Res) → Nat → Res
  | [], _ => .dead
  | (k, r) :: l, n => if k = n then r else getM l n

structure StL where
  T : List (Nat × PV)
  M : List (Nat × Res)

structure SimX (w0 : Base) (F0 : Nat → Prop) (n : Nat) (s : StL) (a : Act) (w : World) (φ : Nat → Value) (fp : Nat → Nat → Prop) : Prop where
  res : ∀ m, ResRep w φ (Stb w0 w fp) (getM s.M m) (φ m) (fp m)
  disj : ∀ m m' g, fp m g → fp m' g → m = m'
  old : ∀ m g, fp m g → g < w.heap.size ∧ (F0 g ∨ w0.w.heap.size ≤ g)
  tmp : ∀ t, PVRep w φ (Stb w0 w fp) (getT s.T t) (a.tmps.getD t Go.undef)
  evo : Evo F0 w0.w w
  size : a.tmps.size = n
  dfr : a.defers = w0.dfr ∧ (∀ g, F0 g → w0.F g) ∧ GlobS w0
  fix : ∀ m, 1000000 ≤ m → φ m = w0.fix m

def Sim (w0 : Base) (F0 : Nat → Prop) (n : Nat) (s : StL) (a : Act) (w : World) : Prop := ∃ φ fp, SimX w0 F0 n s a w φ fp

theorem getD_set {vs : Array Value} {d t : Nat} {v : Value} (hd : d < vs.size) : (vs.setIfInBounds d v).getD t Go.undef = if d = t then v else vs.getD t Go.undef := by
  simp only [Array.getD_eq_getD_getElem?, Array.getElem?_setIfInBounds]
  by_cases h : d = t
  · subst h; simp [hd]
  · simp [h]

section upd
variable {w0 : Base} {F0 : Nat → Prop} {n : Nat} {s : StL} {a : Act} {w : World} {φ : Nat → Value} {fp : Nat → Nat → Prop}

theorem SimX.put (h : SimX w0 F0 n s a w φ fp) {d : Nat} (hd : d < n) {p : PV} {v : Value} (hp : PVRep w φ (Stb w0 w fp) p v) : SimX w0 F0 n ⟨(d, p) :: s.T, s.M⟩ (a.put (some d) v) w φ fp := by
  refine ⟨h.res, h.disj, h.old, fun t => ?_, h.evo, by simp [Act.put, h.size], h.dfr, h.fix⟩
  have hs : d < a.tmps.size := by rw [h.size]; exact hd
  simp only [Act.put, getT, getD_set hs]
  by_cases e : d = t
  · rw [if_pos e, if_pos e]; exact hp
  · rw [if_neg e, if_neg e]; exact h.tmp t

end upd
end Go.PS
/- PS2: what a step does to the relation between a state and a world: a new block, a write, an append, forgetting. -/
namespace Go.PS
open Go Go.RowKit

theorem ResRep.keep {w w' : World} {φ : Nat → Value} {St St' : Kind → Nat → Prop} {r : Res} {v : Value} {F : Nat → Prop} (hF : ∀ g, F g → w'.heap[g]? = w.heap[g]?)
    (hc : ∀ k g, St k g → w'.heap[g]? = w.heap[g]?) (hS : ∀ k g, St k g → St' k g) (h : ResRep w φ St r v F) : ResRep w' φ St' r v F := by
  cases r with
  | dead => exact h
  | blk ty cs =>
    obtain ⟨g, vs, hv, hg, hh, hs, hr⟩ := h
    exact ⟨g, vs, hv, hg, (hF g ((hg g).2 rfl)).trans hh, hs, fun j x hx => (hr j x hx).mono hc hS⟩
  | row ty sz k xs =>
    obtain ⟨cells, ho, hb, hl, hr⟩ := h
    refine ⟨cells, ?_, hb, hl, fun i j e x he hx => (hr i j e x he hx).mono (hc _) (hS _)⟩
    rcases ho with ⟨ho, hg⟩ | ho
    · refine .inl ⟨⟨ho.1, ?_⟩, hg⟩
      rcases ho.2 with h0 | ⟨g, cap, cur, hv, hb', hh, rest⟩
      · exact .inl h0
      · refine .inr ⟨g, cap, cur, hv, hb', ?_, rest⟩
        rw [hF g ((hg g).2 (by rw [hv]; rfl))]
        exact hh
    · exact .inr ho
  | tab k es =>
    obtain ⟨r, ents, hv, hg, hh, he⟩ := h
    exact ⟨r, ents, hv, hg, (hF r ((hg r).2 rfl)).trans hh, he.mono (hc _) (hS _)⟩
  | mat t0 t1 X => exact MatRep.keep hF h
  | iter mn n seen =>
    obtain ⟨g, r, sa, hv, hg, hm, hh, hs⟩ := h
    exact ⟨g, r, sa, hv, hg, hm, (hF g ((hg g).2 rfl)).trans hh, hs⟩
  | junk => trivial

theorem ResRep.rename {w : World} {φ φ' : Nat → Value} {St : Kind → Nat → Prop} {r : Res} {v : Value} {F : Nat → Prop} (hm : ∀ m, r.men m = true → φ' m = φ m) (h : ResRep w φ St r v F) : ResRep w φ' St r v F := by
  cases r with
  | dead => exact h
  | blk ty cs =>
    obtain ⟨g, vs, hv, hg, hh, hs, hr⟩ := h
    refine ⟨g, vs, hv, hg, hh, hs, fun j x hx => (hr j x hx).rename fun m hxm => hm m ?_⟩
    cases hb : PV.menL m cs with
    | true => simpa [Res.men] using hb
    | false => rw [PV.menL_get hx hb] at hxm; cases hxm
  | row ty sz k xs => exact h
  | tab k es => exact h
  | mat t0 t1 X => exact h
  | iter mn n seen =>
    obtain ⟨g, r, sa, hv, hg, hr, hh, hs⟩ := h
    exact ⟨g, r, sa, hv, hg, (hm mn (by simp [Res.men])).trans hr, hh, hs⟩
  | junk => trivial

theorem getT_men {m : Nat} : ∀ {T : List (Nat × PV)}, T.all (fun p => !p.2.men m) = true → ∀ t, (getT T t).men m = false
  | [], _, t => rfl
  | (k, p) :: T, h, t => by
    simp only [List.all_cons, Bool.and_eq_true, Bool.not_eq_true'] at h
    simp only [getT]
    by_cases e : k = t
    · rw [if_pos e]; exact h.1
    · rw [if_neg e]; exact getT_men (by simpa using h.2) t

theorem getM_men {m : Nat} : ∀ {M : List (Nat × Res)}, M.all (fun p => !p.2.men m) = true → ∀ t, (getM M t).men m = false
  | [], _, t => rfl
  | (k, p) :: M, h, t => by
    simp only [List.all_cons, Bool.and_eq_true, Bool.not_eq_true'] at h
    simp only [getM]
    by_cases e : k = t
    · rw [if_pos e]; exact h.1
    · rw [if_neg e]; exact getM_men (by simpa using h.2) t

def Res.isDead : Res → Bool
  | .dead => true
  | _ => false

theorem Res.eq_dead {r : Res} (h : r.isDead = true) : r = .dead := by cases r <;> simp [Res.isDead] at h ⊢

/-- The name d is nobody's. -/
def StL.free (s : StL) (d : Nat) : Bool := s.T.all (fun p => !p.2.men d) && s.M.all (fun p => !p.2.men d) && ((getM s.M d).isDead && decide (d < 1000000))

section upd
variable {w0 : Base} {F0 : Nat → Prop} {n : Nat} {s : StL} {a : Act} {w : World} {φ : Nat → Value} {fp : Nat → Nat → Prop}

/-- Nothing of what the state speaks of has turned. -/
theorem SimX.same (h : SimX w0 F0 n s a w φ fp) {w' : World} (hh : w'.heap = w.heap) (ho : w'.os = w.os) (ht : w'.tape = w.tape) (hout : w'.output = w.output) : SimX w0 F0 n s a w' φ fp := by
  have hS : ∀ k g, Stb w0 w fp k g → Stb w0 w' fp k g := fun k g hg => ⟨by rw [hh]; exact hg.1, hg.2⟩
  refine ⟨fun m => (h.res m).keep (fun g _ => by rw [hh]) (fun k g _ => by rw [hh]) hS, h.disj, fun m g hm => by rw [hh]; exact h.old m g hm, fun t => (h.tmp t).mono (fun k g _ => by rw [hh]) hS, ?_, h.size, h.dfr, h.fix⟩
  exact ⟨ho.trans h.evo.os, ht.trans h.evo.tape, hout.trans h.evo.output, by rw [hh]; exact h.evo.size, fun g hg hF => by rw [hh]; exact h.evo.block g hg hF⟩

/-- Temporaries may be forgotten. -/
theorem SimX.weakT (h : SimX w0 F0 n s a w φ fp) {T : List (Nat × PV)} (hT : ∀ t, getT T t = getT s.T t ∨ getT T t = .undef) : SimX w0 F0 n ⟨T, s.M⟩ a w φ fp :=
  ⟨h.res, h.disj, h.old, fun t => by
    rcases hT t with e | e
    · show PVRep _ _ _ (getT T t) _
      rw [e]; exact h.tmp t
    · show PVRep _ _ _ (getT T t) _
      rw [e]; exact .undef _, h.evo, h.size, h.dfr, h.fix⟩

/-- Names may be given up. -/
theorem SimX.weakM (h : SimX w0 F0 n s a w φ fp) {M : List (Nat × Res)} (hM : ∀ m, getM M m = getM s.M m ∨ getM M m = .dead) : ∃ fp', SimX w0 F0 n ⟨s.T, M⟩ a w φ fp' := by
  refine ⟨fun m g => fp m g ∧ getM M m ≠ .dead, ?_⟩
  have hS : ∀ k g, Stb w0 w fp k g → Stb w0 w (fun m g => fp m g ∧ getM M m ≠ .dead) k g := fun k g hg => ⟨hg.1, fun m hm => hg.2.1 m hm.1, hg.2.2⟩
  refine ⟨fun m => ?_, fun m m' g h1 h2 => h.disj m m' g h1.1 h2.1, fun m g hm => h.old m g hm.1, fun t => (h.tmp t).mono (fun k g _ => rfl) hS, h.evo, h.size, h.dfr, h.fix⟩
  show ResRep _ _ _ (getM M m) _ _
  by_cases hd : getM M m = .dead
  · rw [hd]
    intro g hg
    exact hg.2 rfl
  · have e := (hM m).resolve_right hd
    have hF : (fun g => fp m g ∧ getM M m ≠ .dead) = fp m := by
      funext g; simp [hd]
    rw [hF, e]
    exact (h.res m).keep (fun g _ => rfl) (fun k g _ => rfl) hS

/-- A new block under a free name. -/
theorem SimX.new (h : SimX w0 F0 n s a w φ fp) {d : Nat} (hd : s.free d = true) {o : Obj} {r : Res} {v : Value}
    (hr : ∀ φ' fp', (∀ m, m ≠ d → φ' m = φ m) → φ' d = v → (∀ k g, Stb w0 w fp k g → Stb w0 (w.alloc o) fp' k g) → (∀ k g, Stb w0 w fp k g → (w.alloc o).heap[g]? = w.heap[g]?) → ResRep (w.alloc o) φ' (Stb w0 (w.alloc o) fp') r v (fun g => g = w.heap.size)) :
    ∃ φ' fp', SimX w0 F0 n ⟨s.T, (d, r) :: s.M⟩ a (w.alloc o) φ' fp' ∧ (∀ m, m ≠ d → φ' m = φ m) ∧ φ' d = v := by
  simp only [StL.free, Bool.and_eq_true, decide_eq_true_eq] at hd
  obtain ⟨⟨hdT, hdM⟩, hdd, hd6⟩ := hd
  have hdead := Res.eq_dead hdd
  let φ' : Nat → Value := fun m => if m = d then v else φ m
  let fp' : Nat → Nat → Prop := fun m g => if m = d then g = w.heap.size else fp m g
  have hne : ∀ m, m ≠ d → φ' m = φ m := fun m hm => by simp [φ', hm]
  have hfd : ∀ g, ¬ fp d g := by
    have := h.res d
    rw [hdead] at this
    exact this
  have hold : ∀ g, g < w.heap.size → (w.alloc o).heap[g]? = w.heap[g]? := fun g hg => Below.heap_alloc w o g hg
  have hsz : (w.alloc o).heap.size = w.heap.size + 1 := by simp
  have hS : ∀ k g, Stb w0 w fp k g → Stb w0 (w.alloc o) fp' k g := by
    intro k g hg
    refine ⟨by rw [hsz]; exact Nat.lt_succ_of_lt hg.1, fun m hm => ?_, hg.2.2⟩
    simp only [fp'] at hm
    by_cases e : m = d
    · rw [if_pos e] at hm; have := hg.1; omega
    · rw [if_neg e] at hm; exact hg.2.1 m hm
  have hSc : ∀ k g, Stb w0 w fp k g → (w.alloc o).heap[g]? = w.heap[g]? := fun k g hg => hold g hg.1
  refine ⟨φ', fp', ⟨fun m => ?_, fun m m' g h1 h2 => ?_, fun m g hm => ?_, fun t => ?_, ?_, h.size, h.dfr, fun m hm => (hne m (by omega)).trans (h.fix m hm)⟩, hne, by simp [φ']⟩
  · show ResRep _ _ _ (getM ((d, r) :: s.M) m) _ _
    simp only [getM]
    by_cases e : d = m
    · subst e
      rw [if_pos rfl]
      have e1 : fp' d = fun g => g = w.heap.size := by funext g; simp [fp']
      have e2 : φ' d = v := by simp [φ']
      rw [e1, e2]
      exact hr φ' fp' hne e2 hS hSc
    · rw [if_neg e]
      have e1 : fp' m = fp m := by funext g; simp [fp', Ne.symm e]
      rw [e1, hne m (Ne.symm e)]
      refine ((h.res m).keep (fun g hg => hold g (h.old m g hg).1) hSc hS).rename fun m' hm' => hne m' ?_
      rintro rfl
      have := getM_men hdM m
      rw [this] at hm'; cases hm'
  · simp only [fp'] at h1 h2
    by_cases e1 : m = d <;> by_cases e2 : m' = d
    · rw [e1, e2]
    · rw [if_pos e1] at h1; rw [if_neg e2] at h2
      have := (h.old m' g h2).1; omega
    · rw [if_neg e1] at h1; rw [if_pos e2] at h2
      have := (h.old m g h1).1; omega
    · rw [if_neg e1] at h1; rw [if_neg e2] at h2
      exact h.disj m m' g h1 h2
  · simp only [fp'] at hm
    rw [hsz]
    by_cases e1 : m = d
    · rw [if_pos e1] at hm
      have := h.evo.size
      exact ⟨by omega, .inr (by omega)⟩
    · rw [if_neg e1] at hm
      have := h.old m g hm
      exact ⟨by omega, this.2⟩
  · refine ((h.tmp t).mono hSc hS).rename fun m' hm' => hne m' ?_
    rintro rfl
    have := getT_men hdT t
    rw [this] at hm'; cases hm'
  · exact ⟨h.evo.os, h.evo.tape, h.evo.output, by rw [hsz]; have := h.evo.size; omega, fun g hg hF => (hold g (Nat.lt_of_lt_of_le hg h.evo.size)).trans (h.evo.block g hg hF)⟩

/-- A write to the block of a name. -/
theorem SimX.write (h : SimX w0 F0 n s a w φ fp) {m0 : Nat} {r : Res} {w' : World} (ho : w'.os = w.os) (ht : w'.tape = w.tape) (hout : w'.output = w.output) (hsz : w'.heap.size = w.heap.size)
    (hother : ∀ g, ¬ fp m0 g → w'.heap[g]? = w.heap[g]?)
    (hr : ∀ (hS : ∀ k g, Stb w0 w fp k g → Stb w0 w' fp k g), (∀ k g, Stb w0 w fp k g → w'.heap[g]? = w.heap[g]?) → ResRep w' φ (Stb w0 w' fp) r (φ m0) (fp m0)) :
    SimX w0 F0 n ⟨s.T, (m0, r) :: s.M⟩ a w' φ fp := by
  have hS : ∀ k g, Stb w0 w fp k g → Stb w0 w' fp k g := fun k g hg => ⟨by rw [hsz]; exact hg.1, hg.2⟩
  have hSc : ∀ k g, Stb w0 w fp k g → w'.heap[g]? = w.heap[g]? := fun k g hg => hother g (hg.2.1 m0)
  refine ⟨fun m => ?_, h.disj, fun m g hm => by rw [hsz]; exact h.old m g hm, fun t => (h.tmp t).mono hSc hS, ?_, h.size, h.dfr, h.fix⟩
  · show ResRep _ _ _ (getM ((m0, r) :: s.M) m) _ _
    simp only [getM]
    by_cases e : m0 = m
    · subst e
      rw [if_pos rfl]
      exact hr hS hSc
    · rw [if_neg e]
      exact (h.res m).keep (fun g hg => hother g fun hg' => e (h.disj m0 m g hg' hg)) hSc hS
  · refine ⟨ho.trans h.evo.os, ht.trans h.evo.tape, hout.trans h.evo.output, by rw [hsz]; exact h.evo.size, fun g hg hF => ?_⟩
    refine (hother g fun hm => ?_).trans (h.evo.block g hg hF)
    rcases (h.old m0 g hm).2 with h1 | h1
    · exact hF h1
    · omega

end upd
end Go.PS
/- PS3: the operations that change nothing: what they answer in a state, and that the machine answers so. -/
namespace Go.PS
open Go Go.RowKit

def szT (P : Program) (t : Nat) : Option Nat := (P.info? t).map (·.size)
def TypeDesc.isAgg : TypeDesc → Bool
  | .struct _ | .array _ _ => true
  | _ => false
def aggT (P : Program) (t : Nat) : Option Bool := (P.underlying t).map TypeDesc.isAgg
def fldT (P : Program) (t f : Nat) : Option (Nat × Nat) :=
  match P.underlying t with
  | some (.struct fs) => match fs[f]? with
    | some fl => (szT P fl.type).map fun n => (fl.offset, n)
    | none => none
  | _ => none
def fldA (P : Program) (t f : Nat) : Option Bool :=
  match P.underlying t with
  | some (.struct fs) => match fs[f]? with
    | some fl => aggT P fl.type
    | none => none
  | _ => none
def slT (P : Program) (t : Nat) : Option Nat :=
  match P.underlying t with
  | some (.slice e) => szT P e
  | _ => none
def arT (P : Program) (t : Nat) : Option (Nat × Nat) :=
  match P.underlying t with
  | some (.array n e) => (szT P e).map fun m => (n, m)
  | _ => none
def arA (P : Program) (t : Nat) : Option Bool :=
  match P.underlying t with
  | some (.array n e) => aggT P e
  | _ => none
/-- From a whole number's type to another. -/
def cvT (P : Program) (s d : Nat) : Option IntKind :=
  match P.underlying s, P.underlying d with
  | some _, some (.int k) => some k
  | _, _ => none

theorem szT_run {P : Program} {t n : Nat} (h : szT P t = some n) (w : World) : (sizeOf t).run P w = .ok n w := by
  unfold szT at h
  obtain ⟨i, hi, rfl⟩ := Option.map_eq_some_iff.1 h
  simp [sizeOf, typeInfo, hi]

theorem aggT_run {P : Program} {t : Nat} {b : Bool} (h : aggT P t = some b) (w : World) : (isAgg t).run P w = .ok b w := by
  unfold aggT at h
  obtain ⟨d, hd, rfl⟩ := Option.map_eq_some_iff.1 h
  cases d <;> simp [isAgg, run_underlying hd, TypeDesc.isAgg]

/-- What an operand is. -/
def ev (s : StL) : Operand → PV
  | .tmp t => getT s.T t
  | .const (.agg vs) => .t .fz (.agg (vs.toList.map .v))
  | .const v => .t .fz (.v v)
  | .func f => .clo f []
  | .global g => match glT g with
    | some vs => .t .ro (.rp (vs.map .v) 0)
    | none => if glU g then .t .ro (.rp [.one] 0) else .undef

/-- Whole numbers, Bools, strings. -/
def sBin (op : BinOp) (x y : Value) : Option Value :=
  match x, y with
  | .int k a, .int k' b =>
    match op with
    | .shl => if 0 ≤ b then some (.int k (k.wrap (a * 2 ^ min b.toNat k.bits))) else none
    | .shr => if 0 ≤ b then some (.int k (a.fdiv (2 ^ min b.toNat k.bits))) else none
    | .add => if k = k' then some (.int k (k.wrap (a + b))) else none
    | .sub => if k = k' then some (.int k (k.wrap (a - b))) else none
    | .mul => if k = k' then some (.int k (k.wrap (a * b))) else none
    | .quo => if k = k' ∧ b ≠ 0 then some (.int k (k.wrap (a.tdiv b))) else none
    | .rem => if k = k' ∧ b ≠ 0 then some (.int k (a.tmod b)) else none
    | .and => if k = k' then some (.int k (bits .and k a b)) else none
    | .or => if k = k' then some (.int k (bits .or k a b)) else none
    | .xor => if k = k' then some (.int k (bits .xor k a b)) else none
    | .andNot => if k = k' then some (.int k (bits .andNot k a b)) else none
    | .eql => if k = k' then some (.bool (a == b)) else none
    | .neq => if k = k' then some (.bool (a != b)) else none
    | .lss => if k = k' then some (.bool (decide (a < b))) else none
    | .leq => if k = k' then some (.bool (decide (a ≤ b))) else none
    | .gtr => if k = k' then some (.bool (decide (b < a))) else none
    | .geq => if k = k' then some (.bool (decide (b ≤ a))) else none
  | .string a, .string b =>
    match op with
    | .eql => some (.bool (a.toList == b.toList))
    | .neq => some (.bool (a.toList != b.toList))
    | .add => if Nat.ble (a.size + b.size) 9223372036854775807 = true then some (.string (a ++ b)) else none
    | _ => none
  | _, _ => none

def sUn (op : UnOp) (x : Value) : Option Value :=
  match op, x with
  | .not, .bool b => some (.bool !b)
  | .neg, .int k n => some (.int k (k.wrap (0 - n)))
  | _, _ => none


theorem sBin_run {P : Program} {op : BinOp} {t : Nat} {x y v : Value} {xo yo : Operand} (h : sBin op x y = some v) (w : World) :
    (do eqGuard op t xo yo x y; binOp op t x y : Sem Value).run P w = .ok v w := by
  unfold sBin at h
  split at h
  · rename_i k a k' b
    have hg : (eqGuard op t xo yo (.int k a) (.int k' b)).run P w = .ok () w := by
      unfold eqGuard
      cases op <;> rfl
    rw [Sem.run_bind, hg]
    cases op <;> simp only [] at h
    case shl =>
      split at h
      · rename_i hb
        cases h
        simp [binOp, Op.shift, Int.not_lt.2 hb, Result.andThen]
      · cases h
    case shr =>
      split at h
      · rename_i hb
        cases h
        simp [binOp, Op.shift, Int.not_lt.2 hb, Result.andThen]
      · cases h
    case quo =>
      split at h
      · rename_i hb
        obtain ⟨rfl, hb⟩ := hb
        cases h
        simp [binOp, Op.intDiv, hb, Result.andThen]
      · cases h
    case rem =>
      split at h
      · rename_i hb
        obtain ⟨rfl, hb⟩ := hb
        cases h
        simp [binOp, Op.intDiv, hb, Result.andThen]
      · cases h
    all_goals
      split at h
      · rename_i hb
        cases hb
        cases h
        simp [binOp, Op.intArith, Op.intBits, Op.intCmp, bits, Result.andThen]
      · cases h
  · rename_i a b
    have hg : (eqGuard op t xo yo (.string a) (.string b)).run P w = .ok () w := by
      unfold eqGuard
      cases op <;> rfl
    rw [Sem.run_bind, hg]
    cases op
    case add =>
      simp only at h
      split at h
      · rename_i hle
        cases h
        have hle' := Nat.le_of_ble_eq_true hle
        have hmx : IntKind.i64.max = 9223372036854775807 := rfl
        have hn : ¬ (((a.size + b.size : Nat) : Int) > IntKind.i64.max) := by rw [hmx]; omega
        simp only [binOp, Op.stringOp, hn, if_false, Result.andThen]
        rfl
      · cases h
    all_goals simp only [reduceCtorEq] at h
    all_goals cases h
    · simp [binOp, Op.stringOp, Result.andThen]
    · simp [binOp, Op.stringOp, Result.andThen, bne]
  · cases h

def isBoolT (P : Program) (t : Nat) : Bool := match P.underlying t with
  | some .bool => true
  | _ => false
/-- The same, of two Bools too. -/
def sBinT (P : Program) (op : BinOp) (t : Nat) (x y : Value) : Option Value :=
  match x, y with
  | .bool a, .bool b => if isBoolT P t = true then (match op with
    | .eql => some (.bool (a == b))
    | .neq => some (.bool (a != b))
    | _ => none) else none
  | x, y => sBin op x y
theorem sBinT_run {P : Program} {op : BinOp} {t : Nat} {x y v : Value} {xo yo : Operand} (h : sBinT P op t x y = some v) (w : World) :
    (do eqGuard op t xo yo x y; binOp op t x y : Sem Value).run P w = .ok v w := by
  unfold sBinT at h
  split at h
  · rename_i a b
    split at h
    · rename_i hb
      have hu : P.underlying t = some .bool := by
        unfold isBoolT at hb
        split at hb
        · assumption
        · cases hb
      have hg : (eqGuard op t xo yo (.bool a) (.bool b)).run P w = .ok () w := by
        unfold eqGuard
        cases op <;> rfl
      have he : (Op.equal t (.bool a) (.bool b)).run P w = .ok (a == b) w := by
        unfold Op.equal
        show (Op.equalIn Op.maxDepth t (.bool a) (.bool b)).run P w = _
        unfold Op.maxDepth Op.equalIn
        simp [underlying, hu]
      rw [Sem.run_bind, hg]
      cases op <;> simp only [reduceCtorEq] at h <;> cases h
      · simp [binOp, Result.andThen, he]
      · simp [binOp, Result.andThen, he, bne]
    · cases h
  · exact sBin_run h w

theorem sUn_run {P : Program} {op : UnOp} {x v : Value} (h : sUn op x = some v) (w : World) : (Op.unary op x).run P w = .ok v w := by
  unfold sUn at h
  split at h
  · cases h; simp [Op.unary]
  · cases h; simp [Op.unary, Op.intArith]
  · cases h

section
variable {w0 : Base} {F0 : Nat → Prop} {n : Nat} {s : StL} {a : Act} {w : World} {φ : Nat → Value} {fp : Nat → Nat → Prop}

theorem getD_mapv (vs : Array Value) (j : Nat) (x : TL) (h : (vs.toList.map TL.v)[j]? = some x) : x = .v (vs.getD j Go.undef) := by
  rw [List.getElem?_map] at h
  obtain ⟨y, hy, rfl⟩ := Option.map_eq_some_iff.1 h
  rw [Array.getElem?_toList] at hy
  simp [Array.getD_eq_getD_getElem?, hy]

/-- A table is as it was laid. -/
theorem SimX.tab (h : SimX w0 F0 n s a w φ fp) {g : Nat} {vs : List Value} (hg : glT g = some vs) : Stb w0 w fp .ro g ∧ ∀ (j : Nat) (x : Value), vs[j]? = some x → w.cell? ⟨g, j, none⟩ = some x := by
  obtain ⟨h1, h2, h3, h4⟩ := h.dfr.2.2.1 g vs hg
  have h5 : ¬ F0 g := fun e => h3 (h.dfr.2.1 g e)
  refine ⟨⟨Nat.lt_of_lt_of_le h2 h.evo.size, fun m hm => ?_, .inr ⟨rfl, h1⟩⟩, fun j x hx => (World.cell?_of_block (h.evo.block g h2 h5)).trans (h4 j x hx)⟩
  rcases (h.old m g hm).2 with e | e
  · exact h5 e
  · omega
theorem SimX.tabU (h : SimX w0 F0 n s a w φ fp) {g : Nat} (hg : glU g = true) : Stb w0 w fp .ro g ∧ ∃ x : Value, x.oneCell' = true ∧ w.cell? ⟨g, 0, none⟩ = some x := by
  obtain ⟨h1, h2, h3, x, h4, h6⟩ := h.dfr.2.2.2 g hg
  have h5 : ¬ F0 g := fun e => h3 (h.dfr.2.1 g e)
  refine ⟨⟨Nat.lt_of_lt_of_le h2 h.evo.size, fun m hm => ?_, .inr ⟨rfl, h1⟩⟩, x, h4, (World.cell?_of_block (h.evo.block g h2 h5)).trans h6⟩
  rcases (h.old m g hm).2 with e | e
  · exact h5 e
  · omega
theorem SimX.ev (h : SimX w0 F0 n s a w φ fp) (x : Operand) : PVRep w φ (Stb w0 w fp) (PS.ev s x) (a.eval x) := by
  cases x with
  | tmp t => exact h.tmp t
  | const v =>
    cases v
    case agg vs => exact .t (.agg vs (by simp) fun j x hx => by rw [getD_mapv vs j x hx]; exact .v _)
    all_goals exact .t (.v _)
  | func f => exact .clo #[] rfl fun j x hx => by simp at hx
  | global g =>
    show PVRep _ _ _ (match glT g with
      | some vs => .t .ro (.rp (vs.map .v) 0)
      | none => if glU g then .t .ro (.rp [.one] 0) else .undef) _
    cases hg : glT g with
    | none =>
      cases hu : glU g with
      | false => exact .undef _
      | true =>
        obtain ⟨h1, x, h2, h3⟩ := h.tabU hu
        have := TRep.rp (w := w) (S := Stb w0 w fp .ro) (cs := [TL.one]) (off := 0) (b := g) (o := 0) (fun _ => x) h1 (fun j hj => by
          have hj' : j = 0 := by simpa using hj
          subst hj'
          exact h3) (fun j y hy => by
          cases j with
          | zero => simp at hy; subst hy; exact .one h2
          | succ j => simp at hy)
        exact .t this
    | some vs =>
      obtain ⟨h1, h2⟩ := h.tab hg
      have := TRep.rp (w := w) (S := Stb w0 w fp .ro) (cs := vs.map .v) (off := 0) (b := g) (o := 0) (fun j => vs.getD j Go.undef) h1 (fun j hj => by
        have hj' : j < vs.length := by simpa using hj
        rw [Nat.zero_add, h2 j vs[j] (List.getElem?_eq_getElem hj')]
        simp [List.getD_eq_getElem?_getD, hj']) (fun j x hx => by
        rw [List.getElem?_map] at hx
        obtain ⟨y, hy, rfl⟩ := Option.map_eq_some_iff.1 hx
        rw [List.getD_eq_getElem?_getD, hy]
        exact .v _)
      exact .t this

end
end Go.PS
/- PS4: operations that change nothing, one by one and together. -/
namespace Go.PS
open Go Go.RowKit

/- Maps of our own. -/
open Go.MapKept (IsKey run_getObj_map run_setObj_map run_checkKey run_findKey run_keyThatStays bytes_beq)
section
def mapT (P : Program) (t : Nat) : Option (Nat × Nat) :=
  match P.underlying t with
  | some (.map k e) => some (k, e)
  | _ => none
def zV (P : Program) (t : Nat) : Option Value := (P.info? t).bind (·.zero)
def isKeyB : TypeDesc → Value → Bool
  | .bool, .bool _ => true
  | .int k, .int k' _ => k' == k
  | .string, .string _ => true
  | _, _ => false
theorem isKeyB_spec {d : TypeDesc} {v : Value} (h : isKeyB d v = true) : IsKey d v := by
  unfold isKeyB at h
  split at h <;> simp_all [IsKey]
theorem sameNow_true {d : TypeDesc} {a b : Value} (h : Instr.sameNow d a b = some true) : b = a := by
  unfold Instr.sameNow at h
  split at h
  · split at h
    · rename_i hk
      subst hk
      simp at h
      rw [h]
    · cases h
  · simp only [Option.some.injEq] at h
    rw [(bytes_beq _ _).1 h]
  · simp at h
    rw [h]
  · cases h
theorem zV_run {P : Program} {t : Nat} {z : Value} (h : zV P t = some z) (w : World) : (zeroValue t).run P w = .ok z w := by
  unfold zV at h
  obtain ⟨i, hi, hz⟩ := Option.bind_eq_some_iff.1 h
  simp [zeroValue, typeInfo, hi, hz]
theorem mapT_und {P : Program} {t k e : Nat} (h : mapT P t = some (k, e)) : P.underlying t = some (.map k e) := by
  unfold mapT at h
  split at h
  · rename_i hh
    cases h
    exact hh
  · cases h

def intsL : List Value → Option (List Int)
  | [] => some []
  | .int .i64 x :: l => (intsL l).map (x :: ·)
  | _ :: _ => none
def i64T (P : Program) (t : Nat) : Bool := match P.underlying t with
  | some (.int .i64) => true
  | _ => false
def fldOk (P : Program) : Nat → List Field → Bool
  | _, [] => true
  | i, f :: fs => f.name != "_" && i64T P f.type && f.offset == i && fldOk P (i + 1) fs
inductive KD where
  | plain (d : TypeDesc)
  | wide (n : Nat)
def keyK (P : Program) (t : Nat) : Option KD := match P.underlying t with
  | some (.struct fs) => if P.stoodInHeld t = false ∧ fldOk P 0 fs.toList = true then some (.wide fs.size) else none
  | some (.array _ _) => none
  | some d => some (.plain d)
  | none => none
def isKeyK : KD → Value → Bool
  | .plain d, v => isKeyB d v
  | .wide n, .agg vs => match intsL vs.toList with
    | some l => l.length == n
    | none => false
  | _, _ => false
def sameK : KD → Value → Value → Option Bool
  | .plain d, a, b => Instr.sameNow d a b
  | .wide n, .agg a, .agg b => match intsL a.toList, intsL b.toList with
    | some x, some y => if x.length = n ∧ y.length = n then some (x == y) else none
    | _, _ => none
  | _, _, _ => none

theorem intsL_map : ∀ {l : List Value} {x : List Int}, intsL l = some x → l = x.map (.int .i64 ·)
  | [], x, h => by cases h; rfl
  | v :: l, x, h => by
    unfold intsL at h
    split at h
    · rename_i e
      cases e
    · rename_i y l' e
      cases e
      obtain ⟨x', h1, rfl⟩ := Option.map_eq_some_iff.1 h
      rw [intsL_map h1]
      rfl
    · cases h
theorem sameK_true {D : KD} {a b : Value} (h : sameK D a b = some true) : b = a := by
  unfold sameK at h
  split at h
  · exact sameNow_true h
  · split at h
    · rename_i x y hx hy
      split at h
      · simp at h
        subst h
        congr 1
        rw [← Array.toList_inj, intsL_map hx, intsL_map hy]
      · cases h
    · cases h
  · cases h
theorem sameK_wide {n : Nat} {a b : Value} {r : Bool} (h : sameK (.wide n) a b = some r) : ∃ (x y : List Int) (va vb : Array Value), a = .agg va ∧ b = .agg vb ∧ va.toList = x.map (.int .i64 ·) ∧ vb.toList = y.map (.int .i64 ·) ∧ x.length = n ∧ y.length = n ∧ (x == y) = r := by
  unfold sameK at h
  split at h
  · rename_i h0; cases h0
  · rename_i h0
    cases h0
    split at h
    · rename_i x y hx hy
      split at h
      · rename_i hl
        exact ⟨x, y, _, _, rfl, rfl, intsL_map hx, intsL_map hy, hl.1, hl.2, Option.some.inj h⟩
      · cases h
    · cases h
  · cases h
section
variable {P : Program}
theorem i64T_und {t : Nat} (h : i64T P t = true) : P.underlying t = some (.int .i64) := by
  unfold i64T at h
  split at h
  · assumption
  · cases h
theorem run_part64 {t : Nat} (h : i64T P t = true) {vs : Array Value} {x : List Int} (hv : vs.toList = x.map (.int .i64 ·)) {i : Nat} {y : Int} (hy : x[i]? = some y) (w : World) : (part t vs i).run P w = .ok (.int .i64 y) w := by
  have h1 : vs[i]? = some (.int .i64 y) := by
    rw [← Array.getElem?_toList, hv, List.getElem?_map, hy]
    rfl
  simp [part, isAgg, run_underlying (i64T_und h), h1, Result.andThen]
theorem eqFields_ints (d : Nat) (w : World) {xs ys : Array Value} {x y : List Int} (hx : xs.toList = x.map (.int .i64 ·)) (hy : ys.toList = y.map (.int .i64 ·)) (hl : x.length = y.length) :
    ∀ (fs : List Field) (i : Nat), fldOk P i fs = true → i + fs.length = x.length → (Op.eqFields (d + 1) xs ys fs).run P w = .ok (x.drop i == y.drop i) w
  | [], i, _, h => by
    simp only [List.length_nil, Nat.add_zero] at h
    rw [List.drop_eq_nil_of_le (by omega), List.drop_eq_nil_of_le (by omega)]
    simp [Op.eqFields]
  | f :: fs, i, hf, h => by
    simp only [fldOk, Bool.and_eq_true, bne_iff_ne, ne_eq, beq_iff_eq] at hf
    obtain ⟨⟨⟨h1, h2⟩, h3⟩, h4⟩ := hf
    simp only [List.length_cons] at h
    have hi : i < x.length := by omega
    have hi' : i < y.length := by omega
    have ih := eqFields_ints d w hx hy hl fs (i + 1) h4 (by omega)
    have p1 := run_part64 h2 hx (List.getElem?_eq_getElem hi) w
    have p2 := run_part64 h2 hy (List.getElem?_eq_getElem hi') w
    have p3 : (Op.equalIn (d + 1) f.type (.int .i64 x[i]) (.int .i64 y[i])).run P w = .ok (x[i] == y[i]) w := by
      simp [Op.equalIn, run_underlying (i64T_und h2), Result.andThen]
    have hd : (x.drop i == y.drop i) = (x[i] == y[i] && (x.drop (i + 1) == y.drop (i + 1))) := by
      rw [List.drop_eq_getElem_cons hi, List.drop_eq_getElem_cons hi']
      rfl
    rw [hd]
    simp only [Op.eqFields, h1, ne_eq, not_false_eq_true, if_true, Sem.run_bind, h3, p1, p2, p3, Result.andThen_ok]
    cases hb : (x[i] == y[i])
    · simp
    · simp [ih]
theorem wide_eq_run {kt n : Nat} (hk : keyK P kt = some (.wide n)) {a b : Array Value} {x y : List Int} (hx : a.toList = x.map (.int .i64 ·)) (hy : b.toList = y.map (.int .i64 ·)) (hlx : x.length = n) (hly : y.length = n) (w : World) :
    (Op.equal kt (.agg a) (.agg b)).run P w = .ok (x == y) w := by
  unfold keyK at hk
  split at hk
  · rename_i fs hu
    split at hk
    · rename_i hc
      cases hk
      have hfs : P.fieldsOf kt = fs := by simp [Program.fieldsOf, hu]
      show (Op.equalIn (9998 + 1 + 1) kt (.agg a) (.agg b)).run P w = _
      rw [run_equalIn_struct w (9998 + 1) kt a b (by rw [hfs]; exact hu) hc.1, hfs]
      simpa using eqFields_ints 9998 w hx hy (by omega) fs.toList 0 hc.2 (by simpa using hlx.symm)
    · cases hk
  all_goals cases hk
theorem keyK_struct {kt n : Nat} (hk : keyK P kt = some (.wide n)) : ∃ fs, P.underlying kt = some (.struct fs) ∧ P.stoodInHeld kt = false ∧ fldOk P 0 fs.toList = true ∧ fs.size = n := by
  unfold keyK at hk
  split at hk
  · rename_i fs hu
    split at hk
    · rename_i hc
      cases hk
      exact ⟨fs, hu, hc.1, hc.2, rfl⟩
    · cases hk
  all_goals cases hk
theorem keyK_plain {kt : Nat} {d : TypeDesc} (hk : keyK P kt = some (.plain d)) : P.underlying kt = some d := by
  unfold keyK at hk
  split at hk
  · split at hk <;> cases hk
  · cases hk
  · rename_i h
    cases hk
    exact h
  · cases hk
theorem chkFields (d : Nat) (em : Bool) (w : World) {vs : Array Value} {x : List Int} (hx : vs.toList = x.map (.int .i64 ·)) : ∀ (fs : List Field) (i : Nat), fldOk P i fs = true → i + fs.length ≤ x.length →
    (forIn fs PUnit.unit (fun f (_ : PUnit) => (do
      if f.name ≠ "_" then
        let v ← part f.type vs f.offset
        Instr.checkKey em (d + 1) f.type v
      pure (.yield PUnit.unit) : Sem (ForInStep PUnit)))).run P w = .ok PUnit.unit w
  | [], i, _, h => by simp
  | f :: fs, i, hf, h => by
    simp only [fldOk, Bool.and_eq_true, bne_iff_ne, ne_eq, beq_iff_eq] at hf
    obtain ⟨⟨⟨h1, h2⟩, h3⟩, h4⟩ := hf
    simp only [List.length_cons] at h
    have hi : i < x.length := by omega
    have ih := chkFields d em w hx fs (i + 1) h4 (by omega)
    have p1 := run_part64 h2 hx (List.getElem?_eq_getElem hi) w
    have p3 : (Instr.checkKey em (d + 1) f.type (.int .i64 x[i])).run P w = .ok () w := by
      simp [Instr.checkKey, run_underlying (i64T_und h2), Result.andThen]
    simp only [List.forIn_cons, Sem.run_bind, h1, ne_eq, not_false_eq_true, if_true, h3, p1, p3, Result.andThen_ok, Sem.run_pure]
    exact ih
theorem keyK_check {kt : Nat} {D : KD} {v : Value} (hk : keyK P kt = some D) (hv : isKeyK D v = true) (em : Bool) (w : World) : (Instr.checkKey em 10000 kt v).run P w = .ok () w := by
  cases D with
  | plain d => exact run_checkKey (keyK_plain hk) (isKeyB_spec hv) em 9999
  | wide n =>
    obtain ⟨fs, hu, hs, hf, hn⟩ := keyK_struct hk
    cases v <;> simp only [isKeyK, Bool.false_eq_true] at hv
    rename_i vs
    split at hv
    · rename_i x hx
      have hl : x.length = n := by simpa using hv
      have := chkFields (P := P) 9998 em w (intsL_map hx) fs.toList 0 hf (by simp; omega)
      show (Instr.checkKey em (9998 + 1 + 1) kt (.agg vs)).run P w = _
      rw [Instr.checkKey]
      simp only [Sem.run_bind, run_underlying hu, Result.andThen_ok]
      rw [← Array.forIn_toList]
      first
        | simpa using this
        | (simp at this; simp [this])
    · cases hv
theorem keyK_stays {D : KD} {v : Value} (hv : isKeyK D v = true) (w : World) : (Instr.keyThatStays v v).run P w = .ok v w := by
  cases D with
  | plain d => exact run_keyThatStays (isKeyB_spec hv)
  | wide n =>
    cases v <;> simp only [isKeyK, Bool.false_eq_true] at hv
    rename_i vs
    split at hv
    · rename_i x hx
      have hs : Instr.sameBits 10000 (.agg vs) (.agg vs) = true := by
        show Instr.sameBits (9999 + 1) (.agg vs) (.agg vs) = true
        simp only [Instr.sameBits, beq_self_eq_true, Bool.true_and, List.all_eq_true]
        intro p hp
        rw [intsL_map hx] at hp
        obtain ⟨i, hi, e⟩ := List.getElem_of_mem hp
        rw [List.getElem_zip] at e
        rw [← e]
        simp [Instr.sameBits]
      simp [Instr.keyThatStays, hs]
    · cases hv
end

def tget (d : KD) (key : Value) : List (Value × TL) → Option (Option TL)
  | [] => some none
  | p :: es => match sameK d key p.1 with
    | some true => some (some p.2)
    | some false => tget d key es
    | none => none
def tset (d : KD) (key : Value) (x : TL) : List (Value × TL) → Option (List (Value × TL))
  | [] => some [(key, x)]
  | p :: es => match sameK d key p.1 with
    | some true => some ((key, x) :: es)
    | some false => (tset d key x es).map (p :: ·)
    | none => none
/-- Looking a key up. -/
def findK (P : Program) (w : World) (D : KD) (kt : Nat) (key : Value) (l : List MapEntry) (i : Nat) (r : Option (Nat × Value)) : Prop := match D with
  | .plain d => Instr.findNow d key l i = some r
  | .wide _ => (Instr.findAsking kt key l i).run P w = .ok r w
theorem findK_run {P : Program} {w : World} {D : KD} {kt : Nat} {key : Value} {l : List MapEntry} {r : Option (Nat × Value)} (hk : keyK P kt = some D) (h : findK P w D kt key l 0 r) : (Instr.findKey kt key l).run P w = .ok r w := by
  cases D with
  | plain d => exact run_findKey (keyK_plain hk) h
  | wide n =>
    obtain ⟨fs, hu, _⟩ := keyK_struct hk
    have hw : (match P.underlying kt with | some (.array _ _) | some (.struct _) => true | _ => false) = true := by rw [hu]
    exact (run_findKey_eq w hw key l).trans h
theorem findK_nil {P : Program} {w : World} {D : KD} {kt : Nat} {key : Value} (i : Nat) : findK P w D kt key [] i none := by
  cases D
  · rfl
  · simp [findK, Instr.findAsking]
theorem findK_hit {P : Program} {w : World} {D : KD} {kt : Nat} {key : Value} {e : MapEntry} {l : List MapEntry} (hk : keyK P kt = some D) (i : Nat) (h : sameK D key e.key = some true) : findK P w D kt key (e :: l) i (some (i, e.val)) := by
  cases D with
  | plain d =>
    have h' : Instr.sameNow d key e.key = some true := h
    simp [findK, Instr.findNow, h']
  | wide n =>
    obtain ⟨x, y, a, b, rfl, hb, hx, hy, hl, hl', he⟩ := sameK_wide h
    have := wide_eq_run hk hx hy hl hl' w
    simp only [findK, Instr.findAsking, Sem.run_bind, hb, this, Result.andThen_ok, he]
    simp
theorem findK_miss {P : Program} {w : World} {D : KD} {kt : Nat} {key : Value} {e : MapEntry} {l : List MapEntry} {r : Option (Nat × Value)} (hk : keyK P kt = some D) (i : Nat) (h : sameK D key e.key = some false) (h2 : findK P w D kt key l (i + 1) r) : findK P w D kt key (e :: l) i r := by
  cases D with
  | plain d =>
    have h' : Instr.sameNow d key e.key = some false := h
    simpa [findK, Instr.findNow, h'] using h2
  | wide n =>
    obtain ⟨x, y, a, b, rfl, hb, hx, hy, hl, hl', he⟩ := sameK_wide h
    have := wide_eq_run hk hx hy hl hl' w
    simp only [findK, Instr.findAsking, Sem.run_bind, hb, this, Result.andThen_ok, he]
    simpa [findK] using h2

theorem tget_find {P : Program} {w : World} {S : Nat → Prop} {d : KD} {kt : Nat} {key : Value} (hk : keyK P kt = some d) : ∀ {es : List (Value × TL)} {l : List MapEntry} {i : Nat} (j : Nat) {o : Option TL}, EntR w S i es l → tget d key es = some o →
    (o = none ∧ findK P w d kt key l j none) ∨ ∃ x idx v, o = some x ∧ findK P w d kt key l j (some (idx, v)) ∧ TRep w S x v
  | [], [], i, j, o, _, h => by
    cases h
    exact .inl ⟨rfl, findK_nil j⟩
  | p :: es, e :: l, i, j, o, ⟨h1, h2, h3, h4⟩, h => by
    simp only [tget] at h
    split at h
    · rename_i hs
      cases h
      rw [← h1] at hs
      exact .inr ⟨_, _, _, rfl, findK_hit hk j hs, h3⟩
    · rename_i hs
      rw [← h1] at hs
      rcases tget_find hk (j + 1) h4 h with ⟨e1, e2⟩ | ⟨x, idx, v, e1, e2, e3⟩
      · exact .inl ⟨e1, findK_miss hk j hs e2⟩
      · exact .inr ⟨x, idx, v, e1, findK_miss hk j hs e2, e3⟩
    · cases h
  | [], _ :: _, _, _, _, h, _ => h.elim
  | _ :: _, [], _, _, _, h, _ => h.elim

theorem tset_find {P : Program} {w : World} {S : Nat → Prop} {d : KD} {kt : Nat} {key val : Value} {x : TL} (hk : keyK P kt = some d) (hx : TRep w S x val) : ∀ {es es' : List (Value × TL)} {l : List MapEntry} {i : Nat} (j : Nat), EntR w S i es l → tset d key x es = some es' →
    (findK P w d kt key l j none ∧ es' = es ++ [(key, x)]) ∨
    ∃ idx e, findK P w d kt key l j (some (j + idx, e.val)) ∧ l[idx]? = some e ∧ e.key = key ∧ es'.length = es.length ∧ EntR w S i es' (l.modify idx fun e => { e with key := key, val := val })
  | [], es', [], i, j, _, h => by
    cases h
    exact .inl ⟨findK_nil j, rfl⟩
  | p :: es, es', e :: l, i, j, ⟨h1, h2, h3, h4⟩, h => by
    simp only [tset] at h
    split at h
    · rename_i hs
      cases h
      have hs' := hs
      rw [← h1] at hs'
      exact .inr ⟨0, e, findK_hit hk j hs', rfl, by rw [h1, sameK_true hs], rfl, ⟨rfl, h2, hx, h4⟩⟩
    · rename_i hs
      obtain ⟨es2, h5, rfl⟩ := Option.map_eq_some_iff.1 h
      rw [← h1] at hs
      rcases tset_find hk hx (j + 1) h4 h5 with ⟨h6, rfl⟩ | ⟨idx, e2, h6, h7, h8, h9, h10⟩
      · exact .inl ⟨findK_miss hk j hs h6, rfl⟩
      · refine .inr ⟨idx + 1, e2, ?_, by simpa using h7, h8, by simp [h9], ?_⟩
        · rw [show j + (idx + 1) = j + 1 + idx by omega]
          exact findK_miss hk j hs h6
        · simp only [List.modify_succ_cons]
          exact ⟨h1, h2, h3, h10⟩
    · cases h
  | [], _, _ :: _, _, _, h, _ => h.elim
  | _ :: _, _, [], _, _, h, _ => h.elim

theorem EntR.append {w : World} {S : Nat → Prop} {p : Value × TL} {e : MapEntry} : ∀ {es : List (Value × TL)} {l : List MapEntry} {i : Nat}, EntR w S i es l → e.key = p.1 → e.born = i + es.length → TRep w S p.2 e.val → EntR w S i (es ++ [p]) (l ++ [e])
  | [], [], i, _, h1, h2, h3 => ⟨h1, h2, h3, trivial⟩
  | q :: es, f :: l, i, ⟨g1, g2, g3, g4⟩, h1, h2, h3 => ⟨g1, g2, g3, EntR.append g4 h1 (by rw [h2, List.length_cons]; omega) h3⟩
  | [], _ :: _, _, h, _, _, _ => h.elim
  | _ :: _, [], _, h, _, _, _ => h.elim
theorem EntR.length {w : World} {S : Nat → Prop} : ∀ {es : List (Value × TL)} {l : List MapEntry} {i : Nat}, EntR w S i es l → l.length = es.length
  | [], [], i, _ => rfl
  | q :: es, f :: l, i, h => by simp [EntR.length h.2.2.2]
  | [], _ :: _, _, h => h.elim
  | _ :: _, [], _, h => h.elim
theorem EntR.get {w : World} {S : Nat → Prop} : ∀ {es : List (Value × TL)} {l : List MapEntry} {i : Nat}, EntR w S i es l → ∀ (j : Nat) (e : MapEntry), l[j]? = some e → ∃ p, es[j]? = some p ∧ e.key = p.1 ∧ e.born = i + j ∧ TRep w S p.2 e.val
  | [], [], i, _, j, e, he => by simp at he
  | q :: es, f :: l, i, h, 0, e, he => by
    simp at he
    subst he
    exact ⟨q, rfl, h.1, h.2.1, h.2.2.1⟩
  | q :: es, f :: l, i, h, j + 1, e, he => by
    obtain ⟨p, h1, h2, h3, h4⟩ := EntR.get h.2.2.2 j e (by simpa using he)
    exact ⟨p, by simpa using h1, h2, by omega, h4⟩
  | [], _ :: _, _, h, _, _, _ => h.elim
  | _ :: _, [], _, h, _, _, _ => h.elim
theorem EntR.nodup {w : World} {S : Nat → Prop} {es : List (Value × TL)} {l : List MapEntry} {i : Nat} (h : EntR w S i es l) : (l.map (·.born)).Nodup := by
  rw [List.Nodup, List.pairwise_map, List.pairwise_iff_getElem]
  intro a b ha hb hab
  obtain ⟨p, _, _, h1, _⟩ := h.get a l[a] (by simp)
  obtain ⟨q, _, _, h2, _⟩ := h.get b l[b] (by simp)
  omega

/-- A map as a tree has its entries. -/
theorem EntR.of {w : World} {S : Nat → Prop} : ∀ {es : List (Value × TL)} {l : List MapEntry} (i : Nat), l.length = es.length → (∀ (j : Nat) (p : Value × TL) (e : MapEntry), es[j]? = some p → l[j]? = some e → e.key = p.1 ∧ e.born = i + j) → (∀ (j : Nat) (p : Value × TL) (e : MapEntry), es[j]? = some p → l[j]? = some e → TRep w S p.2 e.val) → EntR w S i es l
  | [], [], i, _, _, _ => trivial
  | p :: es, e :: l, i, hl, hk, hr => ⟨(hk 0 p e rfl rfl).1, by simpa using (hk 0 p e rfl rfl).2, hr 0 p e rfl rfl, EntR.of (i + 1) (by simpa using hl) (fun j q f hq hf => by
      have := hk (j + 1) q f (by simpa using hq) (by simpa using hf)
      exact ⟨this.1, by omega⟩) fun j q f hq hf => hr (j + 1) q f (by simpa using hq) (by simpa using hf)⟩
  | [], _ :: _, _, h, _, _ => by simp at h
  | _ :: _, [], _, h, _, _ => by simp at h
theorem EntR.tree {w : World} {S : Nat → Prop} {es : List (Value × TL)} {ents : Array MapEntry} {r : Nat} (h : EntR w S 0 es ents.toList) (hb : S r) (hc : w.heap[r]? = some (.map ents es.length)) : TRep w S (.mp es) (.map (some r)) := by
  have key : ∀ (i : Nat) (p : Value × TL) (e : MapEntry), es[i]? = some p → ents.toList[i]? = some e → (e.key = p.1 ∧ e.born = i) ∧ TRep w S p.2 e.val := fun i p e hp he => by
    obtain ⟨q, h1, h2, h3, h4⟩ := h.get i e he
    rw [hp] at h1
    cases h1
    exact ⟨⟨h2, by omega⟩, h4⟩
  exact .mp hb hc h.length (fun i p e hp he => (key i p e hp he).1) fun i p e hp he => (key i p e hp he).2
theorem TRep.mp_inv {w : World} {S : Nat → Prop} {es : List (Value × TL)} {v : Value} (h : TRep w S (.mp es) v) : ∃ r ents, v = .map (some r) ∧ S r ∧ w.heap[r]? = some (.map ents es.length) ∧ EntR w S 0 es ents.toList := by
  cases h with
  | mp hb hc hsz hk hrep => exact ⟨_, _, rfl, hb, hc, EntR.of 0 hsz (fun i p e h1 h2 => ⟨(hk i p e h1 h2).1, by have := (hk i p e h1 h2).2; omega⟩) hrep⟩

/-- A key. -/
def vsL : List TL → Option (List Value)
  | [] => some []
  | .v x :: l => (vsL l).map (x :: ·)
  | _ :: _ => none
def vsP : List PV → Option (List Value)
  | [] => some []
  | .t _ (.v x) :: l => (vsP l).map (x :: ·)
  | _ :: _ => none
def keyV : PV → Option Value
  | .t _ (.v x) => some x
  | .t _ (.agg cs) => (vsL cs).map fun l => .agg l.toArray
  | .agg cs => (vsP cs).map fun l => .agg l.toArray
  | _ => none
/-- A key as a tree. -/
def keyT : Value → TL
  | .agg vs => .agg (vs.toList.map .v)
  | v => .v v
theorem keyT_rep {w : World} {S : Nat → Prop} (v : Value) : TRep w S (keyT v) v := by
  unfold keyT
  split
  · rename_i vs
    refine .agg vs (by simp) fun j x hx => ?_
    rw [List.getElem?_map] at hx
    obtain ⟨y, hy, rfl⟩ := Option.map_eq_some_iff.1 hx
    rw [Array.getElem?_toList] at hy
    simp only [Array.getD_eq_getD_getElem?, hy, Option.getD_some]
    exact .v _
  · exact .v _
/-- m[k]. -/
def lookPV (P : Program) (s : StL) (t : Nat) (x key : PV) (ok : Bool) : Option PV :=
  match mapT P t, keyV key with
  | some (kt, et), some kv => match keyK P kt, zV P et with
    | some d, some z => if isKeyK d kv = true then
        (match x with
        | .omp n => (match getM s.M n with
          | .tab k es => (match tget d kv es with
            | some (some x) => some (if ok then .tup [.t k x, .t .fz (.v (.bool true))] else .t k x)
            | some none => some (if ok then .tup [.t .fz (.v z), .t .fz (.v (.bool false))] else .t .fz (.v z))
            | none => none)
          | _ => none)
        | .t k (.mp es) => (match tget d kv es with
            | some (some x) => some (if ok then .tup [.t k x, .t .fz (.v (.bool true))] else .t k x)
            | some none => some (if ok then .tup [.t .fz (.v z), .t .fz (.v (.bool false))] else .t .fz (.v z))
            | none => none)
        | .t _ (.v (.map none)) => some (if ok then .tup [.t .fz (.v z), .t .fz (.v (.bool false))] else .t .fz (.v z))
        | _ => none) else none
    | _, _ => none
  | _, _ => none
def lowK : PV → Option (Kind × TL)
  | .t _ (.v y) => some (.fz, .v y)
  | .t k x => some (k, x)
  | _ => none
def jn (k k' : Kind) : Kind := match k, k' with
  | .fz, .fz => .fz
  | _, _ => .ro
/-- m[k] = v. -/
def updPV (P : Program) (s : StL) (t : Nat) (m key v : PV) : Option StL :=
  match m, keyV key, lowK v, mapT P t with
  | .omp n, some kv, some (k', x), some (kt, _) => match keyK P kt, getM s.M n with
    | some d, .tab k es => if isKeyK d kv = true then (tset d kv x es).map fun es' => ⟨s.T, (n, .tab (jn k k') es') :: s.M⟩ else none
    | _, _ => none
  | _, _, _, _ => none
/-- The round's key and value. -/
def entPV (s : StL) (x : PV) : Option PV :=
  match x with
  | .ptr m 0 => match getM s.M m with
    | .iter mn n (i :: _) => match getM s.M mn with
      | .tab k es => if es.length = n then (es[i]?).map fun p => .tup [.t .fz (keyT p.1), .t k p.2] else none
      | _ => none
    | _ => none
  | _ => none
end

section
variable {P : Program} {w0 : Base} {F0 : Nat → Prop} {n : Nat} {s : StL} {a : Act} {w : World} {φ : Nat → Value} {fp : Nat → Nat → Prop}

theorem vsL_eq : ∀ {l : List TL} {vs : List Value}, vsL l = some vs → l = vs.map .v
  | [], vs, h => by cases h; rfl
  | x :: l, vs, h => by
    unfold vsL at h
    split at h
    · rename_i e; cases e
    · rename_i y l' e
      cases e
      obtain ⟨vs', h1, rfl⟩ := Option.map_eq_some_iff.1 h
      rw [vsL_eq h1]
      rfl
    · cases h
theorem vsP_eq : ∀ {l : List PV} {vs : List Value}, vsP l = some vs → l.length = vs.length ∧ ∀ (j : Nat) (p : PV), l[j]? = some p → ∃ k x, p = .t k (.v x) ∧ vs[j]? = some x
  | [], vs, h => by cases h; exact ⟨rfl, fun j p hp => by simp at hp⟩
  | x :: l, vs, h => by
    unfold vsP at h
    split at h
    · rename_i e; cases e
    · rename_i k y l' e
      cases e
      obtain ⟨vs', h1, rfl⟩ := Option.map_eq_some_iff.1 h
      obtain ⟨h2, h3⟩ := vsP_eq h1
      refine ⟨by simp [h2], fun j p hp => ?_⟩
      cases j with
      | zero =>
        simp at hp
        exact ⟨k, y, hp.symm, rfl⟩
      | succ j => exact h3 j p (by simpa using hp)
    · cases h
theorem tv_inv {w : World} {S : Nat → Prop} {x v : Value} (h : TRep w S (.v x) v) : v = x :=
  h.casesOn (motive := fun y v _ => y = TL.v x → v = x) (fun y e => by cases e; rfl) (by intros; simp_all) (by intros; simp_all) (by intros; simp_all) (by intros; simp_all) (by intros; simp_all) (by intros; simp_all) (by intros; simp_all) rfl
theorem pvt_inv {k : Kind} {x v : Value} (h : PVRep w φ (Stb w0 w fp) (.t k (.v x)) v) : v = x := by
  cases h with
  | t h => exact tv_inv h
theorem agg_of {vs : Array Value} {l : List Value} (hs : vs.size = l.length) (h : ∀ (j : Nat) (x : Value), l[j]? = some x → vs.getD j Go.undef = x) : vs = l.toArray := by
  apply Array.ext
  · simpa using hs
  · intro i h1 h2
    have h3 : i < l.length := by omega
    have := h i l[i] (List.getElem?_eq_getElem h3)
    simp only [Array.getD_eq_getD_getElem?, Array.getElem?_eq_getElem h1, Option.getD_some] at this
    simpa using this
theorem keyV_rep {key : PV} {u kv : Value} (hk : PVRep w φ (Stb w0 w fp) key u) (h : keyV key = some kv) : u = kv := by
  unfold keyV at h
  split at h
  · cases h
    exact pvt_inv hk
  · obtain ⟨l, hl, rfl⟩ := Option.map_eq_some_iff.1 h
    have hcs := vsL_eq hl
    subst hcs
    cases hk with
    | t h =>
      cases h with
      | agg vs hs hr =>
        congr 1
        exact agg_of (by simpa using hs) fun j x hx => tv_inv (hr j (.v x) (by simp [hx]))
  · obtain ⟨l, hl, rfl⟩ := Option.map_eq_some_iff.1 h
    obtain ⟨h1, h2⟩ := vsP_eq hl
    cases hk with
    | agg vs hs hr =>
      congr 1
      refine agg_of (by omega) fun j x hx => ?_
      rename_i cs
      have hj : j < cs.length := by
        rw [h1]
        exact (List.getElem?_eq_some_iff.1 hx).1
      obtain ⟨k, y, e1, e2⟩ := h2 j cs[j] (List.getElem?_eq_getElem hj)
      rw [hx] at e2
      cases e2
      have := hr j cs[j] (List.getElem?_eq_getElem hj)
      rw [e1] at this
      exact pvt_inv this
  · cases h

theorem lookPV_run (h : SimX w0 F0 n s a w φ fp) {t : Nat} {x key q : PV} {u kv : Value} {ok : Bool} (hx : PVRep w φ (Stb w0 w fp) x u) (hk : PVRep w φ (Stb w0 w fp) key kv) (hq : lookPV P s t x key ok = some q) :
    ∃ v, (Instr.lookup t u kv ok).run P w = .ok v w ∧ PVRep w φ (Stb w0 w fp) q v := by
  unfold lookPV at hq
  split at hq
  · rename_i kt et kv' hmt hkeyV
    have hund := mapT_und hmt
    split at hq
    · rename_i d z hd hz
      split at hq
      · rename_i hkey
        have hkv : kv = kv' := keyV_rep hk hkeyV
        subst hkv
        have hzr := zV_run hz w
        have fin : ∀ (b : Bool), PVRep w φ (Stb w0 w fp) (if ok then .tup [.t .fz (.v z), .t .fz (.v (.bool b))] else .t .fz (.v z)) (if ok then .tuple #[z, .bool b] else z) := by
          intro b
          cases ok
          · exact .t (.v _)
          · refine .tup _ rfl fun j y hy => ?_
            match j, hy with
            | 0, hy => simp at hy; subst hy; exact .t (.v _)
            | 1, hy => simp at hy; subst hy; exact .t (.v _)
            | j + 2, hy => simp at hy
        have main : ∀ {k : Kind} {es : List (Value × TL)} {r : Nat} {ents : Array MapEntry} {q : PV}, u = .map (some r) → w.heap[r]? = some (.map ents es.length) → EntR w (Stb w0 w fp k) 0 es ents.toList → (match tget d kv es with
            | some (some x) => some (if ok then .tup [.t k x, .t .fz (.v (.bool true))] else .t k x)
            | some none => some (if ok then .tup [.t .fz (.v z), .t .fz (.v (.bool false))] else .t .fz (.v z))
            | none => none) = some q → ∃ v, (Instr.lookup t u kv ok).run P w = .ok v w ∧ PVRep w φ (Stb w0 w fp) q v := by
          intro k es r ents q hu hh he hq
          subst hu
          have hc := keyK_check hd hkey ents.isEmpty w
          split at hq
          · rename_i y hg
            cases hq
            rcases tget_find hd 0 he hg with ⟨e, _⟩ | ⟨y', idx, v, e, hf, hr⟩
            · cases e
            · cases e
              refine ⟨if ok then .tuple #[v, .bool true] else v, ?_, ?_⟩
              · simp [Instr.lookup, run_underlying hund, Go.MapKept.run_getObj_map hh, hc, findK_run hd hf, Result.andThen]
              · cases ok
                · exact .t hr
                · refine .tup _ rfl fun j y hy => ?_
                  match j, hy with
                  | 0, hy => simp at hy; subst hy; exact .t hr
                  | 1, hy => simp at hy; subst hy; exact .t (.v _)
                  | j + 2, hy => simp at hy
          · rename_i hg
            cases hq
            rcases tget_find hd 0 he hg with ⟨_, hf⟩ | ⟨y', idx, v, e, hf, hr⟩
            · refine ⟨if ok then .tuple #[z, .bool false] else z, ?_, fin false⟩
              simp [Instr.lookup, run_underlying hund, Go.MapKept.run_getObj_map hh, hc, findK_run hd hf, hzr, Result.andThen]
            · cases e
          · cases hq
        split at hq
        · rename_i m
          cases hx with
          | @omp _ r hφ =>
          split at hq
          · rename_i k es hM
            have hres := h.res m
            rw [hM] at hres
            obtain ⟨r', ents, hv, hF, hh, he⟩ := hres
            rw [hφ] at hv
            exact main hv hh he hq
          · cases hq
        · cases hx with
          | t hx =>
            obtain ⟨r, ents, e1, _, e3, e4⟩ := hx.mp_inv
            exact main e1 e3 e4 hq
        · have hu : u = .map none := pvt_inv hx
          subst hu
          cases hq
          refine ⟨if ok then .tuple #[z, .bool false] else z, ?_, fin false⟩
          have hc := keyK_check hd hkey true w
          simp [Instr.lookup, run_underlying hund, hc, findK_run hd (findK_nil (P := P) (w := w) (D := d) (kt := kt) (key := kv) 0), hzr, Result.andThen]
        · cases hq
      · cases hq
    · cases hq
  · cases hq

theorem TRep.jn {k : Kind} {x : TL} {v : Value} (h : TRep w (Stb w0 w fp k) x v) (k' : Kind) : TRep w (Stb w0 w fp (jn k k')) x v :=
  h.mono (fun _ _ => rfl) fun g hg => by
    cases k <;> cases k' <;> first | exact hg | exact ⟨hg.1, hg.2.1, hg.2.2.imp id fun e => ⟨rfl, e.2⟩⟩
theorem EntR.jn {k : Kind} {es : List (Value × TL)} {l : List MapEntry} {i : Nat} (h : EntR w (Stb w0 w fp k) i es l) (k' : Kind) : EntR w (Stb w0 w fp (jn k k')) i es l :=
  h.mono (fun _ _ => rfl) fun g hg => by
    cases k <;> cases k' <;> first | exact hg | exact ⟨hg.1, hg.2.1, hg.2.2.imp id fun e => ⟨rfl, e.2⟩⟩
theorem jn_comm (k k' : Kind) : PS.jn k k' = PS.jn k' k := by cases k <;> cases k' <;> rfl

theorem lowK_rep {p : PV} {u : Value} {k : Kind} {x : TL} (hu : PVRep w φ (Stb w0 w fp) p u) (hl : lowK p = some (k, x)) : TRep w (Stb w0 w fp k) x u := by
  unfold lowK at hl
  split at hl
  · rename_i k0 y
    cases hl
    cases hu with
    | t h => exact h.casesOn (motive := fun x v _ => x = TL.v y → TRep w (Stb w0 w fp .fz) (.v y) v) (fun z e => by cases e; exact .v _) (by intros; simp_all) (by intros; simp_all) (by intros; simp_all) (by intros; simp_all) (by intros; simp_all) (by intros; simp_all) (by intros; simp_all) rfl
  · cases hl
    cases hu with
    | t h => exact h
  · cases hl

theorem updPV_run (h : SimX w0 F0 n s a w φ fp) {t : Nat} {m key v : PV} {um uk uv : Value} {s' : StL} (hm : PVRep w φ (Stb w0 w fp) m um) (hk : PVRep w φ (Stb w0 w fp) key uk) (hv : PVRep w φ (Stb w0 w fp) v uv) (hq : updPV P s t m key v = some s') :
    ∃ w', (Instr.mapUpdate t um uk uv).run P w = .ok () w' ∧ SimX w0 F0 n s' a w' φ fp := by
  unfold updPV at hq
  split at hq
  · rename_i m0 kv k' x kt et hkeyV hlow hmt
    have hund := mapT_und hmt
    have hkv : uk = kv := keyV_rep hk hkeyV
    subst hkv
    have hx := lowK_rep hv hlow
    split at hq
    · rename_i d k es hd hM
      split at hq
      · rename_i hkey
        have hc := fun em => keyK_check hd hkey em w
        obtain ⟨es', hts, rfl⟩ := Option.map_eq_some_iff.1 hq
        cases hm with
        | @omp _ r hφ =>
        have hres := h.res m0
        rw [hM] at hres
        obtain ⟨r', ents, hv', hF, hh, he⟩ := hres
        rw [hφ] at hv'
        cases hv'
        have hx' : TRep w (Stb w0 w fp (PS.jn k k')) x uv := by
          rw [jn_comm]
          exact hx.jn k
        have he' := he.jn k'
        have hlen := he.length
        have wr : ∀ (ents' : Array MapEntry), EntR w (Stb w0 w fp (PS.jn k k')) 0 es' ents'.toList → SimX w0 F0 n ⟨s.T, (m0, .tab (PS.jn k k') es') :: s.M⟩ a { w with heap := w.heap.setIfInBounds r' (.map ents' es'.length) } φ fp := by
          intro ents' hent
          refine h.write rfl rfl rfl (by simp) (fun g hg => ?_) (fun hS hSc => ?_)
          · have : g ≠ r' := fun e => hg ((hF g).2 e)
            simp [Ne.symm this]
          · refine ⟨r', ents', hφ, hF, ?_, hent.mono (hSc _) (hS _)⟩
            have hlt : r' < w.heap.size := (Array.getElem?_eq_some_iff.1 hh).1
            simp [hlt]
        rcases tset_find hd hx' 0 he' hts with ⟨hf, rfl⟩ | ⟨idx, e, hf, hidx, hek, hl, hent⟩
        · refine ⟨_, ?_, wr (ents.push { key := uk, val := uv, born := es.length }) ?_⟩
          · simp [Instr.mapUpdate, run_underlying hund, Go.MapKept.run_getObj_map hh, hc, findK_run hd hf, Go.MapKept.run_setObj_map _ hh, Result.andThen]
          · rw [Array.toList_push]
            exact he'.append rfl (by simp) hx'
        · have hj : ents[idx]? = some e := by simpa using hidx
          have hf' := findK_run hd hf
          rw [Nat.zero_add] at hf'
          refine ⟨_, ?_, wr (ents.modify idx fun e => { e with key := uk, val := uv }) ?_⟩
          · rw [hl]
            simp [Instr.mapUpdate, run_underlying hund, Go.MapKept.run_getObj_map hh, hc, hf', hj, hek, keyK_stays hkey, Go.MapKept.run_setObj_map _ hh, Result.andThen]
          · rw [Array.toList_modify]
            exact hent
      · cases hq
    · cases hq
  · cases hq

theorem entPV_run (h : SimX w0 F0 n s a w φ fp) {x q : PV} {u : Value} (hx : PVRep w φ (Stb w0 w fp) x u) (hq : entPV s x = some q) : ∃ v, (Instr.entry u).run P w = .ok v w ∧ PVRep w φ (Stb w0 w fp) q v := by
  unfold entPV at hq
  split at hq
  · rename_i m
    split at hq
    · rename_i mn nn i rest hM
      split at hq
      · rename_i k es hMn
        split at hq
        · rename_i hl
          obtain ⟨p, hp, rfl⟩ := Option.map_eq_some_iff.1 hq
          cases hx with
          | @ptr _ _ g hφ =>
          have hres := h.res m
          rw [hM] at hres
          obtain ⟨g', r, sa, hv, hF, hφm, hh, hs, _⟩ := hres
          rw [hφ] at hv
          cases hv
          have hres2 := h.res mn
          rw [hMn] at hres2
          obtain ⟨r2, ents, hv2, _, hh2, he⟩ := hres2
          rw [hφm] at hv2
          cases hv2
          have hsa : ∃ sa0 : Array Nat, sa = sa0.push i := by
            have : sa.toList = rest.reverse ++ [i] := by
              have := congrArg List.reverse hs
              simpa using this
            refine ⟨rest.reverse.toArray, ?_⟩
            rw [← Array.toList_inj]
            simp [this]
          obtain ⟨sa0, rfl⟩ := hsa
          have hilt : i < ents.toList.length := by
            rw [he.length]
            exact (List.getElem?_eq_some_iff.1 hp).1
          obtain ⟨p', hp', hk', hb', hr'⟩ := he.get i ents.toList[i] (by simp)
          rw [hp] at hp'
          cases hp'
          have hbi : (ents.toList[i]).born = i := by omega
          have hrun := run_entry_at (P := P) w g r nn sa0 ents es.length ents.toList[i] (by rw [hbi, hl]; exact hh) hh2 (List.getElem_mem hilt) he.nodup
          refine ⟨_, hrun, .tup _ rfl fun j y hy => ?_⟩
          match j, hy with
          | 0, hy =>
            simp at hy
            subst hy
            rw [← hk']
            exact .t (keyT_rep _)
          | 1, hy =>
            simp at hy
            subst hy
            exact .t hr'
          | j + 2, hy => simp at hy
        · cases hq
      · cases hq
    · cases hq
  · cases hq
end


def loadPV (s : StL) (p : PV) (sz : Nat) (ag : Bool) : Option PV :=
  match p with
  | .t k (.rp cs off) => if ag then (if off + sz ≤ cs.length then some (.t k (.agg ((cs.drop off).take sz))) else none) else (cs[off]?).map (PV.t k)
  | .ptr m off => match getM s.M m with
    | .blk _ cs => if ag then (if off + sz ≤ cs.length then some (.agg ((cs.drop off).take sz)) else none) else cs[off]?
    | _ => none
  | .oep m sz' i off => match getM s.M m with
    | .row _ sz'' k xs => if sz' = sz'' ∧ i < xs.length then
        (if ag then (if off + sz ≤ (xs.getD i []).length then some (.t k (.agg (((xs.getD i []).drop off).take sz))) else none) else ((xs.getD i [])[off]?).map (PV.t k)) else none
    | _ => none
  | .mx m 2 i j => match getM s.M m with
    | .mat _ _ X => if ag then none else ((X.getD i [])[j]?).map fun x => .t .fz (.v (.int .i64 x))
    | _ => none
  | .mx m 3 i _ => match getM s.M m with
    | .mat _ _ X => if ag then none else if i < X.length then some (.mx m 1 i 0) else none
    | _ => none
  | _ => none

def partPV (p : PV) (off sz : Nat) (ag : Bool) : Option PV :=
  match p with
  | .t k (.agg cs) => if ag then (if off + sz ≤ cs.length then some (.t k (.agg ((cs.drop off).take sz))) else none) else (cs[off]?).map (PV.t k)
  | .agg cs => if ag then (if off + sz ≤ cs.length then some (.agg ((cs.drop off).take sz)) else none) else cs[off]?
  | _ => none

def addrPV (p : PV) (d : Nat) : Option PV :=
  match p with
  | .ptr m off => some (.ptr m (off + d))
  | .t k (.rp cs off) => some (.t k (.rp cs (off + d)))
  | .oep m sz i off => some (.oep m sz i (off + d))
  | _ => none

def idxPV (P : Program) (s : StL) (t : Nat) (x : PV) (i : Int) : Option PV :=
  match x with
  | .t k (.sl tt sz xs) => if slT P t = some sz ∧ 0 ≤ i ∧ i < xs.length then some (.t k (.rp (xs.getD i.toNat []) 0)) else none
  | .osl m => match getM s.M m with
    | .row ty sz k xs => if slT P t = some sz ∧ 0 ≤ i ∧ i < xs.length then some (.oep m sz i.toNat 0) else none
    | _ => none
  | .osv m sz lo len => match getM s.M m with
    | .row ty sz' k xs => if slT P t = some sz ∧ sz' = sz ∧ 0 ≤ i ∧ i < len ∧ lo + len ≤ xs.length then some (.oep m sz (lo + i.toNat) 0) else none
    | _ => none
  | .mx m 0 _ _ => match getM s.M m with
    | .mat _ _ X => if slT P t = some 1 ∧ 0 ≤ i ∧ i < X.length then some (.mx m 3 i.toNat 0) else none
    | _ => none
  | .mx m 1 r _ => match getM s.M m with
    | .mat _ _ X => if slT P t = some 1 ∧ 0 ≤ i ∧ r < X.length ∧ i < (X.getD r []).length then some (.mx m 2 r i.toNat) else none
    | _ => none
  | .mx m 5 l _ => if slT P t = some 1 ∧ 0 ≤ i ∧ i < l then some (.ptr m i.toNat) else none
  | p => match arT P t with
    | some (len, sz) => if 0 ≤ i ∧ i < len then addrPV p (i.toNat * sz) else none
    | none => none

def nilPV : PV → Option PV
  | .ptr m off => some (.ptr m off)
  | .t k (.rp cs off) => some (.t k (.rp cs off))
  | .oep m sz i off => some (.oep m sz i off)
  | _ => none

/-- A bound of a slice expression. -/
def bndPV (s : StL) (x : Option Operand) (d : Nat) : Option Int :=
  match x with
  | none => some d
  | some x => match ev s x with
    | .t _ (.v (.int _ i)) => some i
    | _ => none

/-- A string. -/
def isStrT (P : Program) (t : Nat) : Bool := match P.underlying t with
  | some .string => true
  | _ => false
theorem isStrT_eq {P : Program} {t : Nat} (h : isStrT P t = true) : P.underlying t = some .string := by
  unfold isStrT at h
  split at h
  · assumption
  · cases h

def idxVal (P : Program) (t : Nat) (x : PV) (i : Int) : Option PV :=
  match x with
  | .t k (.v (.string b)) => if isStrT P t = true ∧ 0 ≤ i then (b.data.toList[i.toNat]?).map fun c => .t k (.v (.int .u8 (c.toNat : Int))) else none
  | x => match arT P t, arA P t with
    | some (len, sz), some ag => if 0 ≤ i ∧ i < len then partPV x (i.toNat * sz) sz ag else none
    | _, _ => none
def slicePV (P : Program) (s : StL) (t : Nat) (x : PV) (lo hi mx : Option Operand) : Option PV :=
  match x with
  | .t k (.v (.string b)) =>
    match bndPV s lo 0, bndPV s hi b.size with
    | some l, some h => if isStrT P t = true ∧ mx = none ∧ 0 ≤ l ∧ l ≤ h ∧ h ≤ b.size then some (.t k (.v (.string (b.extract l.toNat h.toNat)))) else none
    | _, _ => none
  | .t k (.sl tt sz xs) =>
    match bndPV s lo 0, bndPV s hi xs.length, bndPV s mx xs.length with
    | some l, some h, some m =>
      if slT P t = some sz ∧ 0 ≤ l ∧ l ≤ h ∧ h ≤ m ∧ m ≤ xs.length then
        some (.t k (.sl (if (if mx.isSome then decide (m = h) else decide (tt = .tight) && decide (h = xs.length)) then .tight else .any) sz ((xs.drop l.toNat).take (h.toNat - l.toNat)))) else none
    | _, _, _ => none
  | .t k (.rp cs off) => match arT P t with
    | some (len, 1) => match bndPV s hi len with
      | some h => if lo = none ∧ mx = none ∧ 0 ≤ h ∧ h ≤ len ∧ off + len ≤ cs.length ∧ len ≤ 140737488355328 then
          some (.t k (.sl .any 1 (((cs.drop off).take h.toNat).map fun c => [c]))) else none
      | none => none
    | _ => none
  | .t k (.v (.slice none 0 0)) => match bndPV s lo 0, bndPV s hi 0, bndPV s mx 0 with
    | some l, some h, some m => if (slT P t).isSome = true ∧ l = 0 ∧ h = 0 ∧ m = 0 then some (.t k (.v (.slice none 0 0))) else none
    | _, _, _ => none
  | .osl m => match getM s.M m with
    | .row _ sz _ xs => match bndPV s lo 0, bndPV s hi xs.length with
      | some l, some h => if 500000 ≤ m ∧ slT P t = some sz ∧ mx = none ∧ 0 ≤ l ∧ l < h ∧ h ≤ xs.length then some (.osv m sz l.toNat (h.toNat - l.toNat)) else none
      | _, _ => none
    | _ => none
  | _ => none

def lenPV (s : StL) (x : PV) : Option Nat :=
  match x with
  | .t _ (.sl _ _ xs) => some xs.length
  | .t _ (.v (.slice none 0 0)) => some 0
  | .osl m => match getM s.M m with
    | .row _ _ _ xs => some xs.length
    | _ => none
  | .osv _ _ _ len => some len
  | .mx m 0 _ _ => match getM s.M m with
    | .mat _ _ X => some X.length
    | _ => none
  | .mx m 1 i _ => match getM s.M m with
    | .mat _ _ X => (X[i]?).map List.length
    | _ => none
  | .mx _ 5 i _ => some i
  | _ => none

def isSlT (P : Program) (t : Nat) : Bool :=
  match P.underlying t with
  | some (.slice _) => true
  | _ => false

/-- A string's bytes. -/
def strPV : PV → Option ByteArray
  | .t _ (.v (.string b)) => some b
  | _ => none
/-- How many entries a map of our own has. -/
def cntPV (s : StL) : PV → Option Nat
  | .omp m => match getM s.M m with
    | .tab _ es => some es.length
    | _ => none
  | _ => none
/-- Where a row's bytes begin. -/
def datPV (s : StL) : PV → Option PV
  | .osl m => match getM s.M m with
    | .row _ 1 _ (_ :: _) => some (.oep m 1 0 0)
    | _ => none
  | _ => none
def builtinVal (P : Program) (s : StL) (b : Builtin) (args : List PV) (ts : Array Nat) : Option PV :=
  match b, args with
  | .len, [x] => if (match ts[0]? with | some t => isSlT P t | none => false) then (lenPV s x).map fun (m : Nat) => PV.t .fz (.v (.int .i64 (m : Int))) else
      if (match ts[0]? with | some t => isStrT P t | none => false) then (strPV x).map fun (b : ByteArray) => PV.t .fz (.v (.int .i64 (b.size : Int))) else
        if (match ts[0]? with | some t => (mapT P t).isSome | none => false) then (cntPV s x).map fun (m : Nat) => PV.t .fz (.v (.int .i64 (m : Int))) else none
  | .min, [.t _ (.v (.int k x)), .t _ (.v (.int k' y))] => if k = k' then some (.t .fz (.v (.int k (if y < x then y else x)))) else none
  | .max, [.t _ (.v (.int k x)), .t _ (.v (.int k' y))] => if k = k' then some (.t .fz (.v (.int k (if x < y then y else x)))) else none
  | .unsafeSliceData, [x] => datPV s x
  | _, _ => none

def opVal (P : Program) (s : StL) : Op → Option PV
  | .move x => some (ev s x)
  | .assign x => some (ev s x)
  | .pick c x y => match ev s c with
    | .t _ (.v (.bool b)) => some (if b then ev s x else ev s y)
    | _ => none
  | .binOp op t x y _ => match ev s x, ev s y with
    | .t _ (.v u), .t _ (.v u') => (sBinT P op t u u').map fun v => .t .fz (.v v)
    | _, _ => none
  | .unOp op _ x => match ev s x with
    | .t _ (.v u) => (sUn op u).map fun v => .t .fz (.v v)
    | _ => none
  | .convert src dst x => match ev s x, cvT P src dst with
    | .t _ (.v (.int _ m)), some k => some (.t .fz (.v (.int k (k.wrap m))))
    | _, _ => none
  | .nilCheck x => nilPV (ev s x)
  | .fieldAddr t x f => match fldT P t f with
    | some (d, sz) => if sz = 0 then none else addrPV (ev s x) d
    | none => none
  | .indexAddr t x i => match ev s i with
    | .t _ (.v (.int _ i)) => idxPV P s t (ev s x) i
    | _ => none
  | .load t x => match szT P t, aggT P t with
    | some sz, some ag => loadPV s (ev s x) sz ag
    | _, _ => none
  | .extract x i => match ev s x with
    | .t k (.tup cs) => (cs[i]?).map (PV.t k)
    | .tup cs => cs[i]?
    | _ => none
  | .field t x f => match fldT P t f, fldA P t f with
    | some (d, sz), some ag => partPV (ev s x) d sz ag
    | _, _ => none
  | .index t x i => match ev s i with
    | .t _ (.v (.int _ i)) => idxVal P t (ev s x) i
    | _ => none
  | .makeFunc (.func f) first caps => if first.size = 0 then some (.clo f (caps.toList.map (ev s))) else none
  | .slice t x lo hi mx => if mx.isSome && hi.isNone then none else slicePV P s t (ev s x) lo hi mx
  | .call c => match c.callee with
    | .builtin b => builtinVal P s b (c.args.toList.map (ev s)) c.argTypes
    | _ => none
  | .lookup t x i ok => lookPV P s t (ev s x) (ev s i) ok
  | .entry x => entPV s (ev s x)
  | _ => none

section
variable {P : Program} {w0 : Base} {F0 : Nat → Prop} {n : Nat} {s : StL} {a : Act} {w : World} {φ : Nat → Value} {fp : Nat → Nat → Prop}

theorem run_value {P : Program} {w w' : World} {x : Sem Value} {v : Value} (h : x.run P w = .ok v w') : (do pure (Next.value (← x)) : Sem Next).run P w = .ok (.value v) w' := by
  simp [h]

theorem TRep.v_inv {S : Nat → Prop} {x v : Value} (h : TRep w S (.v x) v) : v = x := by cases h; rfl
theorem PVRep.t_inv {St : Kind → Nat → Prop} {k : Kind} {x : TL} {v : Value} (h : PVRep w φ St (.t k x) v) : TRep w (St k) x v := by cases h; assumption

theorem PVRep.nth {St : Kind → Nat → Prop} {vs : Array Value} {cs : List PV} (hr : ∀ (j : Nat) (x : PV), cs[j]? = some x → PVRep w φ St x (vs.getD j Go.undef)) (off sz : Nat) :
    ∀ (j : Nat) (x : PV), ((cs.drop off).take sz)[j]? = some x → PVRep w φ St x (vs.getD (off + j) Go.undef) := by
  intro j x hx
  rw [List.getElem?_take] at hx
  split at hx
  · rw [List.getElem?_drop] at hx
    exact hr _ _ hx
  · cases hx

/-- Loading a run of cells that is known cell by cell. -/
theorem run_loadCells_fn {P : Program} (w : World) (b o sz : Nat) (g : Nat → Value) (h : ∀ j, j < sz → w.cell? ⟨b, o + j, none⟩ = some (g j)) :
    (loadCells ⟨b, o, none⟩ sz).run P w = .ok ((List.range sz).map g).toArray w := by
  have := run_loadCells_list (P := P) w ⟨b, o, none⟩ ((List.range sz).map g) (fun j v hv => by
    simp only [List.getElem?_map] at hv
    obtain ⟨i, hi, rfl⟩ := Option.map_eq_some_iff.1 hv
    obtain ⟨hlt, rfl⟩ := List.getElem?_eq_some_iff.1 hi
    simp only [List.getElem_range]
    have hadd : (⟨b, o, none⟩ : Addr).add j = ⟨b, o + j, none⟩ := by unfold Addr.add; split <;> simp_all
    rw [hadd]
    exact h j (by simpa using hlt))
  simpa using this

theorem getD_range (sz : Nat) (g : Nat → Value) (j : Nat) (h : j < sz) : (((List.range sz).map g).toArray).getD j Go.undef = g j := by
  simp [Array.getD_eq_getD_getElem?, h]

theorem agg_len {α : Type} (cs : List α) (off sz : Nat) (g : Nat → Value) (h : off + sz ≤ cs.length) : ((List.range sz).map g).toArray.size = ((cs.drop off).take sz).length := by
  simp; omega

theorem run_loadVar_agg {P : Program} {t sz : Nat} (hs : szT P t = some sz) (ha : aggT P t = some true) (w : World) (b o : Nat) (g : Nat → Value) (h : ∀ j, j < sz → w.cell? ⟨b, o + j, none⟩ = some (g j)) :
    (loadVar t ⟨b, o, none⟩).run P w = .ok (.agg ((List.range sz).map g).toArray) w := by
  simp [loadVar, aggT_run ha, szT_run hs, run_loadCells_fn w b o sz g h]

theorem run_loadVar_leaf {P : Program} {t : Nat} (ha : aggT P t = some false) (w : World) (A : Addr) (v : Value) (h : w.cell? A = some v) :
    (loadVar t A).run P w = .ok v w := by
  simp [loadVar, aggT_run ha, h]

theorem loadPV_run (h : SimX w0 F0 n s a w φ fp) {t sz : Nat} {ag : Bool} (hs : szT P t = some sz) (ha : aggT P t = some ag) {p q : PV} {u : Value} (hu : PVRep w φ (Stb w0 w fp) p u) (hq : loadPV s p sz ag = some q) :
    ∃ v, (Instr.loadAt t u).run P w = .ok v w ∧ PVRep w φ (Stb w0 w fp) q v := by
  unfold loadPV at hq
  split at hq
  · rename_i k cs off
    have hr := hu.t_inv
    cases hr with
    | @rp _ _ b o g hb hc hrep =>
    cases ag with
    | true =>
      simp only [if_true] at hq
      split at hq
      · rename_i hle
        cases hq
        have hl := run_loadVar_agg hs ha w b (o + off) (fun j => g (off + j)) (fun j hj => by rw [Nat.add_assoc]; exact hc _ (by omega))
        refine ⟨_, by simp only [Instr.loadAt, Instr.sureAddr, Sem.run_bind, Sem.run_pure, Result.andThen_ok]; exact hl, .t (.agg _ (agg_len cs off sz _ hle) fun j x hx => ?_)⟩
        rw [List.getElem?_take] at hx
        split at hx
        · rename_i hj
          rw [List.getElem?_drop] at hx
          rw [getD_range _ _ _ hj]
          exact hrep _ _ hx
        · cases hx
      · cases hq
    | false =>
      simp only [Bool.false_eq_true, if_false] at hq
      obtain ⟨x, hx, rfl⟩ := Option.map_eq_some_iff.1 hq
      have hlt : off < cs.length := (List.getElem?_eq_some_iff.1 hx).1
      exact ⟨g off, by simp only [Instr.loadAt, Instr.sureAddr, Sem.run_bind, Sem.run_pure, Result.andThen_ok]; exact run_loadVar_leaf ha w _ _ (hc off hlt), .t (hrep _ _ hx)⟩
  · rename_i m off
    cases hu with
    | @ptr _ _ g hφ =>
    split at hq
    · rename_i ty cs hM
      have hres := h.res m
      rw [hM] at hres
      obtain ⟨g', vs, hv, hF, hh, hsz, hrep⟩ := hres
      rw [hφ] at hv
      cases hv
      have hcell : ∀ j, w.cell? ⟨g, j, none⟩ = vs[j]? := fun j => cell_of_row w g j vs ty (0, 0) hh
      cases ag with
      | true =>
        simp only [if_true] at hq
        split at hq
        · rename_i hle
          cases hq
          have hl := run_loadVar_agg hs ha w g off (fun j => vs.getD (off + j) Go.undef) (fun j hj => by
            have : off + j < vs.size := by omega
            simp [hcell, this])
          refine ⟨_, by simp only [Instr.loadAt, Instr.sureAddr, Sem.run_bind, Sem.run_pure, Result.andThen_ok]; exact hl, .agg _ (agg_len cs off sz _ hle) fun j x hx => ?_⟩
          have hj : j < sz := by
            rw [List.getElem?_take] at hx
            split at hx
            · assumption
            · cases hx
          rw [getD_range _ _ _ hj]
          exact PVRep.nth hrep off sz j x hx
        · cases hq
      | false =>
        simp only [Bool.false_eq_true, if_false] at hq
        have hlt : off < cs.length := (List.getElem?_eq_some_iff.1 hq).1
        have hl := run_loadVar_leaf (P := P) ha w ⟨g, off, none⟩ (vs.getD off Go.undef) (by
          have : off < vs.size := by omega
          simp [hcell, this])
        exact ⟨vs.getD off Go.undef, by simp only [Instr.loadAt, Instr.sureAddr, Sem.run_bind, Sem.run_pure, Result.andThen_ok]; exact hl, hrep _ _ hq⟩
    · cases hq
  · rename_i m sz' i off
    cases hu with
    | @oep _ _ _ _ g len cap hφ =>
    split at hq
    · rename_i ty sz'' k xs hM
      have hres := h.res m
      rw [hM] at hres
      obtain ⟨cells, hown, hbd, hlen, hrep⟩ := hres
      rw [hφ] at hown
      split at hq
      · rename_i hcond
        obtain ⟨rfl, hi⟩ := hcond
        obtain ⟨hown, hF⟩ := hown.resolve_right (by rintro ⟨rfl, _⟩; simp at hi)
        have hcells := hown.cells (g := g) rfl
        have he : xs[i]? = some (xs.getD i []) := by
          rw [List.getD_eq_getElem?_getD, List.getElem?_eq_getElem hi]; rfl
        have hel : (xs.getD i []).length = sz' := hlen _ (List.mem_of_getElem? he)
        have hidx : ∀ j, j < sz' → i * sz' + j < cells.length := by
          intro j hj
          rw [hown.1]
          have : (i + 1) * sz' ≤ xs.length * sz' := Nat.mul_le_mul_right _ hi
          rw [Nat.add_mul] at this
          omega
        have hcell : ∀ j, j < sz' → w.cell? ⟨g, i * sz' + j, none⟩ = some (cells.getD (i * sz' + j) Go.undef) := by
          intro j hj
          have h1 := hcells (i * sz' + j) _ (List.getElem?_eq_getElem (hidx j hj))
          have hadd : (⟨g, 0, none⟩ : Addr).add (i * sz' + j) = ⟨g, i * sz' + j, none⟩ := by unfold Addr.add; split <;> simp_all
          rw [hadd] at h1
          rw [h1, List.getD_eq_getElem?_getD, List.getElem?_eq_getElem (hidx j hj)]
          rfl
        cases ag with
        | true =>
          simp only [if_true] at hq
          split at hq
          · rename_i hle
            cases hq
            have hl := run_loadVar_agg hs ha w g (i * sz' + off) (fun j => cells.getD (i * sz' + (off + j)) Go.undef) (fun j hj => by rw [Nat.add_assoc]; exact hcell _ (by omega))
            refine ⟨_, by simp only [Instr.loadAt, Instr.sureAddr, Sem.run_bind, Sem.run_pure, Result.andThen_ok]; exact hl, .t (.agg _ (agg_len (xs.getD i []) off sz _ hle) fun j x hx => ?_)⟩
            rw [List.getElem?_take] at hx
            split at hx
            · rename_i hj
              rw [List.getElem?_drop] at hx
              rw [getD_range _ _ _ hj]
              exact hrep i (off + j) _ x he hx
            · cases hx
          · cases hq
        | false =>
          simp only [Bool.false_eq_true, if_false] at hq
          obtain ⟨x, hx, rfl⟩ := Option.map_eq_some_iff.1 hq
          have hlt : off < (xs.getD i []).length := (List.getElem?_eq_some_iff.1 hx).1
          exact ⟨_, by simp only [Instr.loadAt, Instr.sureAddr, Sem.run_bind, Sem.run_pure, Result.andThen_ok]; exact run_loadVar_leaf ha w _ _ (hcell off (by omega)), .t (hrep i off _ x he hx)⟩
      · cases hq
    · cases hq
  · rename_i m i j
    cases hu with
    | mx hφ =>
    split at hq
    · rename_i t0 t1 X hM
      have hres := h.res m
      rw [hM] at hres
      obtain ⟨vs, g0, cap0, c0, G, k1, k2, k3, k4, k5, k6, k7, k8, k9, k10⟩ := hres
      cases ag with
      | true => simp at hq
      | false =>
        simp only [Bool.false_eq_true, if_false] at hq
        obtain ⟨x, hx, rfl⟩ := Option.map_eq_some_iff.1 hq
        have hi : i < X.length := by
          apply Classical.byContradiction
          intro hi
          have he : X.getD i [] = [] := by
            rw [List.getD_eq_getElem?_getD, List.getElem?_eq_none (by omega)]
            rfl
          rw [he] at hx
          simp at hx
        have hxr : X[i]? = some (X.getD i []) := by rw [List.getD_eq_getElem?_getD, List.getElem?_eq_getElem hi]; rfl
        have hne : X.getD i [] ≠ [] := by
          intro e
          rw [e] at hx
          simp at hx
        obtain ⟨cap, cur, _, k12, _, _, _, _, k17, k18⟩ := (k10 i _ hxr).resolve_left (fun e => hne e.1)
        rw [k1] at hφ
        have hφ' : ptrAt vs[i + 1]? j = some u := hφ
        rw [k12] at hφ'
        cases hφ'
        exact ⟨.int .i64 x, by simp only [Instr.loadAt, Instr.sureAddr, Sem.run_bind, Sem.run_pure, Result.andThen_ok]; exact run_loadVar_leaf ha w _ _ (by rw [cell_of_row w (G i) j cur t1 (0, 0) k17]; exact k18 j x hx), .t (.v _)⟩
    · cases hq
  · rename_i m i j
    cases hu with
    | mx hφ =>
    split at hq
    · rename_i t0 t1 X hM
      have hres := h.res m
      rw [hM] at hres
      obtain ⟨vs, g0, cap0, c0, G, k1, k2, k3, k4, k5, k6, k7, k8, k9, k10⟩ := hres
      cases ag with
      | true => simp at hq
      | false =>
        simp only [Bool.false_eq_true, if_false] at hq
        split at hq
        · rename_i hi
          cases hq
          rw [k1] at hφ
          have hφ' : ptrAt vs[0]? i = some u := hφ
          rw [k3] at hφ'
          cases hφ'
          have hlt : i + 1 < vs.size := by omega
          have hge : vs[i + 1]? = some vs[i + 1] := Array.getElem?_eq_getElem hlt
          exact ⟨vs[i + 1], by simp only [Instr.loadAt, Instr.sureAddr, Sem.run_bind, Sem.run_pure, Result.andThen_ok]; exact run_loadVar_leaf ha w _ _ (by rw [cell_of_row w g0 i c0 t0 (0, 0) k7, k8 i hi]; exact hge), .mx (by rw [k1]; exact hge)⟩
        · cases hq
    · cases hq
  · cases hq

end
end Go.PS
/- PS5: every operation that changes nothing answers as opVal says. -/
namespace Go.PS
open Go Go.RowKit

section
variable {P : Program} {w0 : Base} {F0 : Nat → Prop} {n : Nat} {s : StL} {a : Act} {w : World} {φ : Nat → Value} {fp : Nat → Nat → Prop}

theorem addrPV_rep {St : Kind → Nat → Prop} {p q : PV} {u : Value} (d : Nat) (hu : PVRep w φ St p u) (hq : addrPV p d = some q) :
    ∃ b o, u = .pointer (some ⟨b, o, none⟩) ∧ PVRep w φ St q (.pointer (some ⟨b, o + d, none⟩)) := by
  unfold addrPV at hq
  split at hq
  · rename_i m off
    cases hq
    cases hu with
    | ptr h => exact ⟨_, _, rfl, .ptr h⟩
  · rename_i k cs off
    cases hq
    cases hu.t_inv with
    | rp g hb hc hrep => exact ⟨_, _, rfl, by rw [Nat.add_assoc]; exact .t (.rp g hb hc hrep)⟩
  · rename_i m sz i off
    cases hq
    cases hu with
    | oep h => exact ⟨_, _, rfl, by rw [Nat.add_assoc]; exact .oep h⟩
  · cases hq

theorem addr_add (b o d : Nat) : (⟨b, o, none⟩ : Addr).add d = ⟨b, o + d, none⟩ := by unfold Addr.add; split <;> simp_all

theorem fieldAddr_run {t f d sz : Nat} (hf : fldT P t f = some (d, sz)) (hsz : sz ≠ 0) (w : World) (b o : Nat) :
    (Instr.fieldAt t (.pointer (some ⟨b, o, none⟩)) f).run P w = .ok (.pointer (some ⟨b, o + d, none⟩)) w := by
  unfold fldT at hf
  split at hf
  · rename_i fs hfs
    split at hf
    · rename_i fl hfl
      obtain ⟨m, hm, he⟩ := Option.map_eq_some_iff.1 hf
      simp only [Prod.mk.injEq] at he
      obtain ⟨rfl, rfl⟩ := he
      simp [Instr.fieldAt, run_underlying hfs, hfl, Instr.sureAddr, fieldPlace, szT_run hm, hsz, addr_add]
    · cases hf
  · cases hf

theorem field_run {t f d sz : Nat} {ag : Bool} (hf : fldT P t f = some (d, sz)) (ha : fldA P t f = some ag) (w : World) (vs : Array Value) (v : Value)
    (hv : if ag then v = .agg (vs.extract d (d + sz)) else vs[d]? = some v) :
    (Instr.field t (.agg vs) f).run P w = .ok v w := by
  unfold fldT at hf
  unfold fldA at ha
  split at hf
  · rename_i fs hfs
    simp only [hfs] at ha
    split at hf
    · rename_i fl hfl
      simp only [hfl] at ha
      obtain ⟨m, hm, he⟩ := Option.map_eq_some_iff.1 hf
      simp only [Prod.mk.injEq] at he
      obtain ⟨rfl, rfl⟩ := he
      cases ag with
      | true =>
        simp only [if_true] at hv
        subst hv
        simp [Instr.field, run_underlying hfs, hfl, asAgg, part, aggT_run ha, szT_run hm]
      | false =>
        simp only [Bool.false_eq_true, if_false] at hv
        simp [Instr.field, run_underlying hfs, hfl, asAgg, part, aggT_run ha, hv]
    · cases hf
  · cases hf

theorem extract_size {vs : Array Value} {d sz : Nat} (h : d + sz ≤ vs.size) : (vs.extract d (d + sz)).size = sz := by simp; omega
theorem extract_getD {vs : Array Value} {d sz j : Nat} (h : j < sz) : (vs.extract d (d + sz)).getD j Go.undef = vs.getD (d + j) Go.undef := by
  simp only [Array.getD_eq_getD_getElem?, Array.getElem?_extract]
  by_cases hb : d + j < vs.size
  · rw [if_pos (by omega)]
  · rw [if_neg (by omega), Array.getElem?_eq_none (by omega)]

theorem partPV_rep {St : Kind → Nat → Prop} {p q : PV} {u : Value} {d sz : Nat} {ag : Bool} (hu : PVRep w φ St p u) (hq : partPV p d sz ag = some q) :
    ∃ vs, u = .agg vs ∧ ∃ v, (if ag then v = .agg (vs.extract d (d + sz)) else vs[d]? = some v) ∧ PVRep w φ St q v := by
  unfold partPV at hq
  split at hq
  · rename_i k cs
    cases hu.t_inv with
    | agg vs hs hrep =>
    refine ⟨vs, rfl, ?_⟩
    cases ag with
    | true =>
      simp only [if_true] at hq ⊢
      split at hq
      · rename_i hle
        cases hq
        refine ⟨_, rfl, .t (.agg _ (by rw [extract_size (by omega)]; simp; omega) fun j x hx => ?_)⟩
        rw [List.getElem?_take] at hx
        split at hx
        · rename_i hj
          rw [List.getElem?_drop] at hx
          rw [extract_getD hj]
          exact hrep _ _ hx
        · cases hx
      · cases hq
    | false =>
      simp only [Bool.false_eq_true, if_false] at hq ⊢
      obtain ⟨x, hx, rfl⟩ := Option.map_eq_some_iff.1 hq
      have hlt : d < vs.size := by rw [hs]; exact (List.getElem?_eq_some_iff.1 hx).1
      refine ⟨vs.getD d Go.undef, by simp [hlt], .t (hrep _ _ hx)⟩
  · rename_i cs
    cases hu with
    | agg vs hs hrep =>
    refine ⟨vs, rfl, ?_⟩
    cases ag with
    | true =>
      simp only [if_true] at hq ⊢
      split at hq
      · rename_i hle
        cases hq
        refine ⟨_, rfl, .agg _ (by rw [extract_size (by omega)]; simp; omega) fun j x hx => ?_⟩
        rw [List.getElem?_take] at hx
        split at hx
        · rename_i hj
          rw [List.getElem?_drop] at hx
          rw [extract_getD hj]
          exact hrep _ _ hx
        · cases hx
      · cases hq
    | false =>
      simp only [Bool.false_eq_true, if_false] at hq ⊢
      have hlt : d < vs.size := by rw [hs]; exact (List.getElem?_eq_some_iff.1 hq).1
      exact ⟨vs.getD d Go.undef, by simp [hlt], hrep _ _ hq⟩
  · cases hq

theorem index_run {t len sz : Nat} {ag : Bool} (har : arT P t = some (len, sz)) (ha : arA P t = some ag) (w : World) (k : IntKind) (i : Int) (h0 : 0 ≤ i) (h1 : i < len) (vs : Array Value) (v : Value)
    (hv : if ag then v = .agg (vs.extract (i.toNat * sz) (i.toNat * sz + sz)) else vs[i.toNat * sz]? = some v) :
    (Instr.index t (.agg vs) (.int k i)).run P w = .ok v w := by
  unfold arT at har
  unfold arA at ha
  split at har
  · rename_i m e he
    simp only [he] at ha
    obtain ⟨z, hz, hee⟩ := Option.map_eq_some_iff.1 har
    simp only [Prod.mk.injEq] at hee
    obtain ⟨rfl, rfl⟩ := hee
    cases ag with
    | true =>
      simp only [if_true] at hv
      subst hv
      simp [Instr.index, run_underlying he, asIntOf, h0, h1, szT_run hz, part, aggT_run ha]
    | false =>
      simp only [Bool.false_eq_true, if_false] at hv
      simp [Instr.index, run_underlying he, asIntOf, h0, h1, szT_run hz, part, aggT_run ha, hv]
  · cases har

theorem stridx_run {t : Nat} (hs : isStrT P t = true) (w : World) (k : IntKind) (i : Int) (h0 : 0 ≤ i) {b : ByteArray} {c : UInt8} (hc : b.data.toList[i.toNat]? = some c) : (Instr.index t (.string b) (.int k i)).run P w = .ok (.int .u8 (c.toNat : Int)) w := by
  have hb : b[i.toNat]? = some c := by
    rw [Array.getElem?_toList] at hc
    exact hc
  simp [Instr.index, asIntOf, run_underlying (isStrT_eq hs), h0, hb]
theorem idxPV_run (h : SimX w0 F0 n s a w φ fp) {t : Nat} {k : IntKind} {i : Int} {p q : PV} {u : Value} (hu : PVRep w φ (Stb w0 w fp) p u) (hq : idxPV P s t p i = some q) :
    ∃ v, (Instr.indexAt t u (.int k i)).run P w = .ok v w ∧ PVRep w φ (Stb w0 w fp) q v := by
  unfold idxPV at hq
  split at hq
  · rename_i k' tt sz xs
    split at hq
    · rename_i hcond
      obtain ⟨hsl, h0, h1⟩ := hcond
      cases hq
      have hr := hu.t_inv
      cases hr with
      | @sl _ _ _ ao cap g hcap ht hnn hnil hbd ha hlen hrep =>
      have hi : i.toNat < xs.length := by omega
      have hne : xs ≠ [] := by rintro rfl; simp at hi
      obtain ⟨b, o, rfl, hb, hc⟩ := ha.resolve_left hne
      unfold slT at hsl
      split at hsl
      · rename_i e he
        have he' : xs[i.toNat]? = some (xs.getD i.toNat []) := by
          rw [List.getD_eq_getElem?_getD, List.getElem?_eq_getElem hi]; rfl
        have hel : (xs.getD i.toNat []).length = sz := hlen _ (List.mem_of_getElem? he')
        refine ⟨.pointer (some ⟨b, o + i.toNat * sz + 0, none⟩), ?_, .t (.rp (o := o + i.toNat * sz) (fun j => g i.toNat j) hb (fun j hj => by rw [Nat.add_assoc]; exact hc _ _ hi (by omega)) (fun j x hx => hrep _ _ _ _ he' hx))⟩
        simp [Instr.indexAt, asIntOf, run_underlying he, h0, h1, szT_run hsl, addr_add]
      · cases hsl
    · cases hq
  · rename_i m
    split at hq
    · rename_i ty sz k' xs hM
      split at hq
      · rename_i hcond
        obtain ⟨hsl, h0, h1⟩ := hcond
        cases hq
        cases hu with
        | osl hφ =>
        have hres := h.res m
        rw [hM] at hres
        obtain ⟨cells, hown, hbd, hlen, hrep⟩ := hres
        rw [hφ] at hown
        have hi : i.toNat < xs.length := by omega
        obtain ⟨hown, hF⟩ := hown.resolve_right (by rintro ⟨rfl, _⟩; simp at hi)
        obtain ⟨g, cap, hv⟩ : ∃ g cap, φ m = .slice (some ⟨g, 0, none⟩) xs.length cap := by
          rcases hown.2 with ⟨_, hz⟩ | ⟨g, cap, cur, hv, _⟩
          · omega
          · exact ⟨g, cap, hφ.trans hv⟩
        rw [hφ] at hv
        cases hv
        unfold slT at hsl
        split at hsl
        · rename_i e he
          refine ⟨.pointer (some ⟨g, i.toNat * sz + 0, none⟩), ?_, .oep hφ⟩
          simp [Instr.indexAt, asIntOf, run_underlying he, h0, h1, szT_run hsl, addr_add]
        · cases hsl
      · cases hq
    · cases hq
  · rename_i m sz lo len
    split at hq
    · rename_i ty sz' k' xs hM
      split at hq
      · rename_i hcond
        obtain ⟨hsl, rfl, h0, h1, h2⟩ := hcond
        cases hq
        cases hu with
        | @osv _ _ _ _ g l c cap hφ hcap =>
        unfold slT at hsl
        split at hsl
        · rename_i e he
          have hp : PVRep w φ (Stb w0 w fp) (.oep m sz' (lo + i.toNat) 0) (.pointer (some ⟨g, (lo + i.toNat) * sz' + 0, none⟩)) := .oep hφ
          refine ⟨.pointer (some ⟨g, lo * sz' + i.toNat * sz' + 0, none⟩), ?_, by rw [← Nat.add_mul]; exact hp⟩
          simp [Instr.indexAt, asIntOf, run_underlying he, h0, h1, szT_run hsl, addr_add]
        · cases hsl
      · cases hq
    · cases hq
  · rename_i m _ _
    split at hq
    · rename_i t0 t1 X hM
      split at hq
      · rename_i hcond
        obtain ⟨hsl, h0, h1⟩ := hcond
        cases hq
        cases hu with
        | mx hφ =>
        have hres := h.res m
        rw [hM] at hres
        obtain ⟨vs, g0, cap0, c0, G, k1, k2, k3, _⟩ := hres
        rw [k1] at hφ
        have hφ' : vs[0]? = some u := hφ
        rw [k3] at hφ'
        cases hφ'
        unfold slT at hsl
        split at hsl
        · rename_i e he
          refine ⟨.pointer (some ⟨g0, i.toNat * 1 + 0, none⟩), ?_, .mx ?_⟩
          · simp [Instr.indexAt, asIntOf, run_underlying he, h0, h1, szT_run hsl, addr_add]
          · rw [k1]
            show ptrAt vs[0]? i.toNat = _
            rw [k3]
            simp [ptrAt]
        · cases hsl
      · cases hq
    · cases hq
  · rename_i m r _
    split at hq
    · rename_i t0 t1 X hM
      split at hq
      · rename_i hcond
        obtain ⟨hsl, h0, hr, h1⟩ := hcond
        cases hq
        cases hu with
        | mx hφ =>
        have hres := h.res m
        rw [hM] at hres
        obtain ⟨vs, g0, cap0, c0, G, k1, k2, k3, k4, k5, k6, k7, k8, k9, k10⟩ := hres
        have hxr : X[r]? = some (X.getD r []) := by rw [List.getD_eq_getElem?_getD, List.getElem?_eq_getElem hr]; rfl
        generalize X.getD r [] = row at *
        have hne : row ≠ [] := by
          intro e
          rw [e] at h1
          simp at h1
          omega
        obtain ⟨cap, cur, _, k12, _⟩ := (k10 r _ hxr).resolve_left (fun e => hne e.1)
        rw [k1] at hφ
        have hφ' : vs[r + 1]? = some u := hφ
        rw [k12] at hφ'
        cases hφ'
        unfold slT at hsl
        split at hsl
        · rename_i e he
          refine ⟨.pointer (some ⟨G r, i.toNat * 1 + 0, none⟩), ?_, .mx ?_⟩
          · simp [Instr.indexAt, asIntOf, run_underlying he, h0, h1, szT_run hsl, addr_add]
          · rw [k1]
            show ptrAt vs[r + 1]? i.toNat = _
            rw [k12]
            simp [ptrAt]
        · cases hsl
      · cases hq
    · cases hq
  · rename_i m l _
    split at hq
    · rename_i hcond
      obtain ⟨hsl, h0, h1⟩ := hcond
      cases hq
      cases hu with
      | mx hφ =>
      obtain ⟨g, e1, rfl⟩ := mxV5 hφ
      unfold slT at hsl
      split at hsl
      · rename_i e he
        have hp := PVRep.ptr (w := w) (St := Stb w0 w fp) (off := i.toNat) e1
        refine ⟨.pointer (some ⟨g, i.toNat * 1 + 0, none⟩), ?_, by simpa using hp⟩
        simp [Instr.indexAt, asIntOf, run_underlying he, h0, h1, szT_run hsl, addr_add]
      · cases hsl
    · cases hq
  · split at hq
    · rename_i len sz har
      split at hq
      · rename_i hcond
        obtain ⟨h0, h1⟩ := hcond
        obtain ⟨b, o, rfl, hr⟩ := addrPV_rep _ hu hq
        unfold arT at har
        split at har
        · rename_i m e he
          obtain ⟨z, hz, hee⟩ := Option.map_eq_some_iff.1 har
          simp only [Prod.mk.injEq] at hee
          obtain ⟨rfl, rfl⟩ := hee
          refine ⟨_, ?_, hr⟩
          simp [Instr.indexAt, asIntOf, run_underlying he, h0, h1, szT_run hz, addr_add, Instr.sureAddr]
        · cases har
      · cases hq
    · cases hq

theorem run_sliceBound_ok {x : Value} {k : IntKind} {i : Int} {y : Nat} {code : BoundsCode} (hx : x = .int k i) (h0 : 0 ≤ i) (h1 : i ≤ y) (w : World) : (Instr.sliceBound x y code).run P w = .ok i.toNat w := by
  subst hx
  simp [Instr.sliceBound, asIntOf, h0, h1]

theorem bndPV_rep (h : SimX w0 F0 n s a w φ fp) {x : Option Operand} {d : Nat} {i : Int} (hb : bndPV s x d = some i) : (x = none ∧ i = d) ∨ ∃ x' k, x = some x' ∧ a.eval x' = .int k i := by
  unfold bndPV at hb
  split at hb
  · cases hb; exact .inl ⟨rfl, rfl⟩
  · rename_i x'
    split at hb
    · rename_i k' kk i' he
      cases hb
      have := h.ev x'
      rw [he] at this
      exact .inr ⟨x', _, rfl, this.t_inv.v_inv⟩
    · cases hb

theorem slicePV_run (h : SimX w0 F0 n s a w φ fp) {t : Nat} {p q : PV} {u : Value} {lo hi mx : Option Operand} (hu : PVRep w φ (Stb w0 w fp) p u) (hq : slicePV P s t p lo hi mx = some q) (hmx : mx.isSome = true → hi.isSome = true) :
    ∃ v, (Instr.sliceAt t u (lo.map a.eval) (hi.map a.eval) (mx.map a.eval)).run P w = .ok v w ∧ PVRep w φ (Stb w0 w fp) q v := by
  unfold slicePV at hq
  split at hq
  · rename_i k b
    split at hq
    · rename_i l hh hl1 hh1
      split at hq
      · rename_i hcond
        obtain ⟨hty', rfl, h0, hlh, hhs⟩ := hcond
        have hty := isStrT_eq hty'
        cases hq
        have hr := hu.t_inv.v_inv
        subst hr
        have el := bndPV_rep h hl1
        have eh := bndPV_rep h hh1
        have hbnd : ∃ m' : Nat, (Instr.sliceBounds false b.size b.size (lo.map a.eval) (hi.map a.eval) none).run P w = .ok (l.toNat, hh.toNat, m') w := by
          rcases eh with ⟨rfl, hh'⟩ | ⟨xh, kh, rfl, hh'⟩
          · rcases el with ⟨rfl, hl'⟩ | ⟨xl, kl, rfl, hl'⟩
            · subst hh'; subst hl'
              exact ⟨b.size, by simp [Instr.sliceBounds]⟩
            · subst hh'
              exact ⟨b.size, by simp [Instr.sliceBounds, run_sliceBound_ok hl' h0 hlh]⟩
          · have hb1 := run_sliceBound_ok (P := P) (code := .sliceAlen) hh' (show 0 ≤ hh by omega) (show hh ≤ ((b.size : Nat) : Int) by omega) w
            rcases el with ⟨rfl, hl'⟩ | ⟨xl, kl, rfl, hl'⟩
            · subst hl'
              exact ⟨b.size, by simp [Instr.sliceBounds, hb1]⟩
            · exact ⟨b.size, by simp [Instr.sliceBounds, hb1, run_sliceBound_ok hl' h0 (show l ≤ ((hh.toNat : Nat) : Int) by omega)]⟩
        obtain ⟨m', hbr⟩ := hbnd
        refine ⟨_, ?_, .t (.v _)⟩
        simp [Instr.sliceAt, Instr.slice, run_underlying hty, hbr]
      · cases hq
    · cases hq
  · rename_i k tt sz xs
    split at hq
    · rename_i l hh m hl1 hh1 hm1
      split at hq
      · rename_i hcond
        obtain ⟨hsl, h0, hlh, hhm, hml⟩ := hcond
        cases hq
        have hr := hu.t_inv
        cases hr with
        | @sl _ _ _ ao cap g hcap ht hnn hnil hbd ha hlen hrep =>
        unfold slT at hsl
        split at hsl
        · rename_i e he
          have el := bndPV_rep h hl1
          have eh := bndPV_rep h hh1
          have em := bndPV_rep h hm1
          -- the bounds as the machine takes them
          have hbnd : ∃ m' : Nat, (Instr.sliceBounds true xs.length cap (lo.map a.eval) (hi.map a.eval) (mx.map a.eval)).run P w = .ok (l.toNat, hh.toNat, m') w ∧ m' ≤ cap ∧ hh.toNat ≤ m' ∧
              ((if mx.isSome then decide (m = hh) else decide (tt = .tight) && decide (hh = xs.length)) = true → m' = hh.toNat) := by
            rcases em with ⟨rfl, hm'⟩ | ⟨xm, km, rfl, hm'⟩
            · rcases eh with ⟨rfl, hh'⟩ | ⟨xh, kh, rfl, hh'⟩
              · rcases el with ⟨rfl, hl'⟩ | ⟨xl, kl, rfl, hl'⟩
                · subst hh'; subst hl'
                  refine ⟨cap, by simp [Instr.sliceBounds], Nat.le_refl _, by omega, fun htt => ?_⟩
                  simp only [Option.isSome_none, Bool.false_eq_true, if_false, Bool.and_eq_true, decide_eq_true_eq] at htt
                  have := ht htt.1
                  omega
                · subst hh'
                  refine ⟨cap, by simp [Instr.sliceBounds, run_sliceBound_ok hl' h0 hlh], Nat.le_refl _, by omega, fun htt => ?_⟩
                  simp only [Option.isSome_none, Bool.false_eq_true, if_false, Bool.and_eq_true, decide_eq_true_eq] at htt
                  have := ht htt.1
                  omega
              · have hb1 := run_sliceBound_ok (P := P) (code := .sliceAcap) hh' (show 0 ≤ hh by omega) (show hh ≤ ((cap : Nat) : Int) by omega) w
                rcases el with ⟨rfl, hl'⟩ | ⟨xl, kl, rfl, hl'⟩
                · subst hl'
                  refine ⟨cap, by simp [Instr.sliceBounds, hb1], Nat.le_refl _, by omega, fun htt => ?_⟩
                  simp only [Option.isSome_none, Bool.false_eq_true, if_false, Bool.and_eq_true, decide_eq_true_eq] at htt
                  have := ht htt.1
                  omega
                · refine ⟨cap, by simp [Instr.sliceBounds, hb1, run_sliceBound_ok hl' h0 (show l ≤ ((hh.toNat : Nat) : Int) by omega)], Nat.le_refl _, by omega, fun htt => ?_⟩
                  simp only [Option.isSome_none, Bool.false_eq_true, if_false, Bool.and_eq_true, decide_eq_true_eq] at htt
                  have := ht htt.1
                  omega
            · rcases eh with ⟨rfl, hh'⟩ | ⟨xh, kh, rfl, hh'⟩
              · simp at hmx
              · have hb0 := run_sliceBound_ok (P := P) (code := .slice3Acap) hm' (show 0 ≤ m by omega) (show m ≤ ((cap : Nat) : Int) by omega) w
                have hb1 := run_sliceBound_ok (P := P) (code := .slice3B) hh' (show 0 ≤ hh by omega) (show hh ≤ ((m.toNat : Nat) : Int) by omega) w
                rcases el with ⟨rfl, hl'⟩ | ⟨xl, kl, rfl, hl'⟩
                · subst hl'
                  refine ⟨m.toNat, by simp [Instr.sliceBounds, hb0, hb1], by omega, by omega, fun htt => ?_⟩
                  simp only [Option.isSome_some, if_true, decide_eq_true_eq] at htt
                  omega
                · refine ⟨m.toNat, by simp [Instr.sliceBounds, hb0, hb1, run_sliceBound_ok hl' h0 (show l ≤ ((hh.toNat : Nat) : Int) by omega)], by omega, by omega, fun htt => ?_⟩
                  simp only [Option.isSome_some, if_true, decide_eq_true_eq] at htt
                  omega
          obtain ⟨m', hbr, hmc, hle, htight⟩ := hbnd
          have hrun : (Instr.sliceAt t (.slice ao xs.length cap) (lo.map a.eval) (hi.map a.eval) (mx.map a.eval)).run P w =
              .ok (.slice (if m' = l.toNat then ao else ao.map (·.add (l.toNat * sz))) (hh.toNat - l.toNat) (m' - l.toNat)) w := by
            simp [Instr.sliceAt, Instr.slice, run_underlying he, hbr, szT_run hsl]
          have hlen' : ((xs.drop l.toNat).take (hh.toNat - l.toNat)).length = hh.toNat - l.toNat := by
            rw [List.length_take, List.length_drop]; omega
          have hget : ∀ i e, ((xs.drop l.toNat).take (hh.toNat - l.toNat))[i]? = some e → xs[l.toNat + i]? = some e := by
            intro i e hi
            rw [List.getElem?_take] at hi
            split at hi
            · rwa [List.getElem?_drop] at hi
            · cases hi
          refine ⟨_, hrun, .t ?_⟩
          conv => rhs; rw [← hlen']
          refine .sl (fun i j => g (l.toNat + i) j) (by rw [hlen']; omega) (fun htt => by
            rw [hlen', htight (by
              by_cases hb : (if mx.isSome then decide (m = hh) else decide (tt = .tight) && decide (hh = xs.length)) = true
              · exact hb
              · rw [if_neg hb] at htt; cases htt)]) (fun hn => by
            exfalso
            by_cases hb : (if mx.isSome then decide (m = hh) else decide (tt = .tight) && decide (hh = xs.length)) = true
            · rw [if_pos hb] at hn; cases hn
            · rw [if_neg hb] at hn; cases hn) (fun hn => ?_) (by rw [hlen']; omega) ?_ (fun e hmem => ?_) (fun i j e x he' hx => hrep _ _ _ _ (hget i e he') hx)
          · have hao : ao = none := by
              by_cases e : m' = l.toNat
              · rwa [if_pos e] at hn
              · rw [if_neg e] at hn; simpa using hn
            have hc0 := hnil hao
            have : m' ≤ cap := hmc
            omega
          · by_cases hz : hh.toNat - l.toNat = 0
            · left
              rw [hz, List.take_zero]
            · right
              have hne : xs ≠ [] := by rintro rfl; simp at hml; omega
              obtain ⟨b, o, rfl, hb, hc⟩ := ha.resolve_left hne
              refine ⟨b, o + l.toNat * sz, by rw [if_neg (by omega)]; simp [addr_add], hb, fun i j hi hj => ?_⟩
              rw [hlen'] at hi
              have := hc (l.toNat + i) j (by omega) hj
              rw [Nat.add_mul] at this
              rw [← this]
              congr 2
              omega
          · obtain ⟨i, hi⟩ := List.getElem?_of_mem hmem
            exact hlen e (List.mem_of_getElem? (hget i e hi))
        · cases hsl
      · cases hq
    · cases hq
  · rename_i k cs off
    split at hq
    · rename_i len har
      split at hq
      · rename_i hh hb
        split at hq
        · rename_i hc
          obtain ⟨rfl, rfl, h0, h1, h2, h3⟩ := hc
          cases hq
          unfold arT at har
          split at har
          · rename_i n' e he
            obtain ⟨m, hm, hmm⟩ := Option.map_eq_some_iff.1 har
            cases hmm
            have hr := hu.t_inv
            cases hr with
            | @rp _ _ b o g hS hcell hrep =>
            have hbnd : (Instr.sliceBounds false len len none (hi.map a.eval) none).run P w = .ok (0, hh.toNat, len) w := by
              rcases bndPV_rep h hb with ⟨rfl, hh'⟩ | ⟨xh, kh, rfl, hh'⟩
              · subst hh'
                simp [Instr.sliceBounds]
              · have hb1 := run_sliceBound_ok (P := P) (code := .sliceAlen) hh' h0 h1 w
                simp [Instr.sliceBounds, hb1]
            have hrun : (Instr.sliceAt t (.pointer (some ⟨b, o + off, none⟩)) none (hi.map a.eval) none).run P w = .ok (.slice (some ⟨b, o + off, none⟩) hh.toNat len) w := by
              simp only [Instr.sliceAt, run_underlying he, Instr.sureAddr, Sem.run_bind, Result.andThen_ok, Sem.run_pure, Option.map_none, hbnd, szT_run hm, Nat.zero_mul, Nat.sub_zero]
              by_cases e0 : len = 0
              · simp [e0]
              · simp [e0, addr_add]
            have hlen' : (((cs.drop off).take hh.toNat).map fun c => [c]).length = hh.toNat := by
              rw [List.length_map, List.length_take, List.length_drop]; omega
            have hget : ∀ i e, (((cs.drop off).take hh.toNat).map fun c => [c])[i]? = some e → i < hh.toNat ∧ ∃ c, e = [c] ∧ cs[off + i]? = some c := by
              intro i e hi'
              rw [List.getElem?_map] at hi'
              obtain ⟨c, hc, rfl⟩ := Option.map_eq_some_iff.1 hi'
              rw [List.getElem?_take] at hc
              split at hc
              · rename_i hlt
                rw [List.getElem?_drop] at hc
                exact ⟨hlt, c, rfl, hc⟩
              · cases hc
            refine ⟨_, hrun, .t ?_⟩
            conv => rhs; rw [← hlen']
            refine .sl (fun i j => g (off + i)) (by rw [hlen']; omega) (by simp) (by simp) (by simp) (by rw [hlen']; omega) (.inr ⟨b, o + off, rfl, hS, fun i j hi hj => ?_⟩) (fun e hmem => ?_) (fun i j e x he' hx => ?_)
            · rw [hlen'] at hi
              have hj0 : j = 0 := by omega
              subst hj0
              have := hcell (off + i) (by omega)
              rw [← this]
              congr 2
              omega
            · obtain ⟨i, hi⟩ := List.getElem?_of_mem hmem
              obtain ⟨_, c, rfl, _⟩ := hget i e hi
              rfl
            · obtain ⟨hlt, c, rfl, hc⟩ := hget i e he'
              have hj0 : j = 0 ∧ x = c := by
                cases j with
                | zero => simp at hx; exact ⟨rfl, hx.symm⟩
                | succ j => simp at hx
              obtain ⟨rfl, rfl⟩ := hj0
              exact hrep (off + i) x hc
          · cases har
        · cases hq
      · cases hq
    · cases hq
  · rename_i k
    split at hq
    · rename_i l hh m hl1 hh1 hm1
      split at hq
      · rename_i hcond
        obtain ⟨hsl, rfl, rfl, rfl⟩ := hcond
        cases hq
        have hv := hu.t_inv.v_inv
        subst hv
        obtain ⟨sz, hsz⟩ := Option.isSome_iff_exists.1 hsl
        unfold slT at hsz
        split at hsz
        · rename_i e he
          have el := bndPV_rep h hl1
          have eh := bndPV_rep h hh1
          have em := bndPV_rep h hm1
          have hb : (Instr.sliceBounds true 0 0 (lo.map a.eval) (hi.map a.eval) (mx.map a.eval)).run P w = .ok (0, 0, 0) w := by
            rcases em with ⟨rfl, _⟩ | ⟨xm, km, rfl, hm'⟩
            · rcases eh with ⟨rfl, _⟩ | ⟨xh, kh, rfl, hh'⟩
              · rcases el with ⟨rfl, _⟩ | ⟨xl, kl, rfl, hl'⟩
                · simp [Instr.sliceBounds]
                · simp [Instr.sliceBounds, run_sliceBound_ok hl' (show (0 : Int) ≤ 0 by omega) (show (0 : Int) ≤ ((0 : Nat) : Int) by omega)]
              · have hb1 := run_sliceBound_ok (P := P) (code := .sliceAcap) hh' (show (0 : Int) ≤ 0 by omega) (show (0 : Int) ≤ ((0 : Nat) : Int) by omega) w
                rcases el with ⟨rfl, _⟩ | ⟨xl, kl, rfl, hl'⟩
                · simp [Instr.sliceBounds, hb1]
                · simp [Instr.sliceBounds, hb1, run_sliceBound_ok hl' (show (0 : Int) ≤ 0 by omega) (show (0 : Int) ≤ ((0 : Nat) : Int) by omega)]
            · rcases eh with ⟨rfl, _⟩ | ⟨xh, kh, rfl, hh'⟩
              · simp at hmx
              · have hb0 := run_sliceBound_ok (P := P) (code := .slice3Acap) hm' (show (0 : Int) ≤ 0 by omega) (show (0 : Int) ≤ ((0 : Nat) : Int) by omega) w
                have hb1 := run_sliceBound_ok (P := P) (code := .slice3B) hh' (show (0 : Int) ≤ 0 by omega) (show (0 : Int) ≤ ((0 : Nat) : Int) by omega) w
                rcases el with ⟨rfl, _⟩ | ⟨xl, kl, rfl, hl'⟩
                · simp [Instr.sliceBounds, hb0, hb1]
                · simp [Instr.sliceBounds, hb0, hb1, run_sliceBound_ok hl' (show (0 : Int) ≤ 0 by omega) (show (0 : Int) ≤ ((0 : Nat) : Int) by omega)]
          refine ⟨.slice none 0 0, ?_, .t (.v _)⟩
          simp [Instr.sliceAt, Instr.slice, run_underlying he, hb, szT_run hsz]
        · cases hsz
      · cases hq
    · cases hq
  · rename_i m
    split at hq
    · rename_i e0 sz k xs hM
      split at hq
      · rename_i l hh hl1 hh1
        split at hq
        · rename_i hcond
          obtain ⟨_, hsl, rfl, h0, hlh, hhx⟩ := hcond
          cases hq
          cases hu with
          | @osl _ len cap ao hφ =>
          have hres := h.res m
          rw [hM] at hres
          obtain ⟨cells, hown, hbd, hlen, hrep⟩ := hres
          rw [hφ] at hown
          obtain ⟨hown, hF⟩ := hown.resolve_right (by rintro ⟨rfl, _⟩; simp at hhx; omega)
          obtain ⟨g, cap', cur, hv', hb0, hheap, hc1, hc2, hc3, htake⟩ := hown.2.resolve_left (by rintro ⟨_, h2⟩; omega)
          simp only [Value.slice.injEq] at hv'
          obtain ⟨rfl, rfl, rfl⟩ := hv'
          unfold slT at hsl
          split at hsl
          · rename_i e he
            have el := bndPV_rep h hl1
            have eh := bndPV_rep h hh1
            have hbr : (Instr.sliceBounds true xs.length cap (lo.map a.eval) (hi.map a.eval) none).run P w = .ok (l.toNat, hh.toNat, cap) w := by
              rcases eh with ⟨rfl, hh'⟩ | ⟨xh, kh, rfl, hh'⟩
              · rcases el with ⟨rfl, hl'⟩ | ⟨xl, kl, rfl, hl'⟩
                · subst hh'; subst hl'
                  simp [Instr.sliceBounds]
                · subst hh'
                  simp [Instr.sliceBounds, run_sliceBound_ok hl' h0 (show l ≤ ((xs.length : Nat) : Int) by omega)]
              · have hb1 := run_sliceBound_ok (P := P) (code := .sliceAcap) hh' (show 0 ≤ hh by omega) (show hh ≤ ((cap : Nat) : Int) by omega) w
                rcases el with ⟨rfl, hl'⟩ | ⟨xl, kl, rfl, hl'⟩
                · subst hl'
                  simp [Instr.sliceBounds, hb1]
                · simp [Instr.sliceBounds, hb1, run_sliceBound_ok hl' h0 (show l ≤ ((hh.toNat : Nat) : Int) by omega)]
            have hrun : (Instr.sliceAt t (.slice (some ⟨g, 0, none⟩) xs.length cap) (lo.map a.eval) (hi.map a.eval) (Option.map a.eval none)).run P w = .ok (.slice (some ⟨g, l.toNat * sz, none⟩) (hh.toNat - l.toNat) (cap - l.toNat)) w := by
              simp [Instr.sliceAt, Instr.slice, run_underlying he, hbr, szT_run hsl, show cap ≠ l.toNat by omega, addr_add]
            exact ⟨_, hrun, .osv hφ (by omega)⟩
          · cases hsl
        · cases hq
      · cases hq
    · cases hq
  · cases hq

end
end Go.PS
/- PS6: opVal tells what the machine does. -/
namespace Go.PS
open Go Go.RowKit

section
variable {P : Program} {w0 : Base} {F0 : Nat → Prop} {n : Nat} {s : StL} {a : Act} {w : World} {φ : Nat → Value} {fp : Nat → Nat → Prop}

theorem lenPV_rep (h : SimX w0 F0 n s a w φ fp) {p : PV} {u : Value} {m : Nat} (hu : PVRep w φ (Stb w0 w fp) p u) (hq : lenPV s p = some m) : ∃ ao cap, u = .slice ao m cap := by
  unfold lenPV at hq
  split at hq
  · cases hq
    cases hu.t_inv with
    | sl g hcap ht hnn hnil hbd ha hlen hrep => exact ⟨_, _, rfl⟩
  · cases hq
    have := hu.t_inv.v_inv
    exact ⟨_, _, this⟩
  · rename_i m'
    split at hq
    · rename_i ty sz k xs hM
      cases hq
      cases hu with
      | osl hφ =>
      have hres := h.res m'
      rw [hM] at hres
      obtain ⟨cells, hown, _⟩ := hres
      rw [hφ] at hown
      rcases hown with ⟨hown, _⟩ | ⟨rfl, ⟨ao, hv⟩, _⟩
      · rcases hown.2 with ⟨hv, hz⟩ | ⟨g, cap, cur, hv, _⟩
        · exact ⟨none, 0, by rw [hv, hz]⟩
        · exact ⟨_, _, hv⟩
      · exact ⟨ao, 0, hv⟩
    · cases hq
  · cases hq
    cases hu with
    | osv hφ hc => exact ⟨_, _, rfl⟩
  · rename_i m' _ _
    split at hq
    · rename_i t0 t1 X hM
      cases hq
      cases hu with
      | mx hφ =>
      have hres := h.res m'
      rw [hM] at hres
      obtain ⟨vs, g0, cap0, c0, G, h1, h2, h3, _⟩ := hres
      rw [h1] at hφ
      have hφ' : vs[0]? = some u := hφ
      rw [h3] at hφ'
      cases hφ'
      exact ⟨_, _, rfl⟩
    · cases hq
  · rename_i m' i _
    split at hq
    · rename_i t0 t1 X hM
      obtain ⟨r, hr, rfl⟩ := Option.map_eq_some_iff.1 hq
      cases hu with
      | mx hφ =>
      have hres := h.res m'
      rw [hM] at hres
      obtain ⟨vs, g0, cap0, c0, G, h1, h2, h3, h4, h5, h6, h7, h8, h9, h10⟩ := hres
      rw [h1] at hφ
      have hφ' : vs[i + 1]? = some u := hφ
      rcases h10 i r hr with ⟨rfl, hn⟩ | ⟨cap, cur, _, h12, _⟩
      · rw [hφ'] at hn
        cases hn
        exact ⟨none, 0, rfl⟩
      · rw [hφ'] at h12
        cases h12
        exact ⟨_, _, rfl⟩
    · cases hq
  · cases hq
    cases hu with
    | mx hφ =>
    obtain ⟨g, _, rfl⟩ := mxV5 hφ
    exact ⟨_, _, rfl⟩
  · cases hq

theorem isSlT_run {t : Nat} (h : isSlT P t = true) : ∃ e, P.underlying t = some (.slice e) := by
  unfold isSlT at h
  split at h
  · rename_i e he; exact ⟨e, he⟩
  · cases h

theorem args_one {α : Type} {f : Operand → α} {args : Array Operand} {x : α} (h : args.toList.map f = [x]) : ∃ o, args = #[o] ∧ f o = x := by
  rcases args with ⟨l⟩
  rcases l with _ | ⟨o, _ | ⟨o', l⟩⟩ <;> simp_all

theorem args_two {α : Type} {f : Operand → α} {args : Array Operand} {x y : α} (h : args.toList.map f = [x, y]) : ∃ o o', args = #[o, o'] ∧ f o = x ∧ f o' = y := by
  rcases args with ⟨l⟩
  rcases l with _ | ⟨o, _ | ⟨o', _ | ⟨o'', l⟩⟩⟩
  · simp at h
  · simp at h
  · exact ⟨o, o', rfl, by simpa using h⟩
  · simp at h

theorem strPV_rep {φ : Nat → Value} {St : Kind → Nat → Prop} {w : World} {p : PV} {u : Value} {b : ByteArray} (hu : PVRep w φ St p u) (hq : strPV p = some b) : u = .string b := by
  unfold strPV at hq
  split at hq
  · cases hq
    exact hu.t_inv.v_inv
  · cases hq
theorem EntR.len {w : World} {S : Nat → Prop} : ∀ {i : Nat} {es : List (Value × TL)} {l : List MapEntry}, EntR w S i es l → l.length = es.length
  | _, [], [], _ => rfl
  | i, p :: es, e :: l, h => by rw [List.length_cons, List.length_cons, EntR.len h.2.2.2]
  | _, [], _ :: _, h => h.elim
  | _, _ :: _, [], h => h.elim
theorem cntPV_rep (h : SimX w0 F0 n s a w φ fp) {p : PV} {u : Value} {m : Nat} (hu : PVRep w φ (Stb w0 w fp) p u) (hq : cntPV s p = some m) : ∃ r ents clock, u = .map (some r) ∧ w.heap[r]? = some (.map ents clock) ∧ ents.size = m := by
  unfold cntPV at hq
  split at hq
  · rename_i q
    split at hq
    · rename_i k es hM
      cases hq
      cases hu with
      | omp hφ =>
      have hres := h.res q
      rw [hM] at hres
      obtain ⟨r, ents, hv, _, hb, he⟩ := hres
      rw [hv] at hφ
      cases hφ
      refine ⟨r, ents, _, rfl, hb, ?_⟩
      rw [← he.len]
      simp
    · cases hq
  · cases hq
theorem datPV_rep (h : SimX w0 F0 n s a w φ fp) {p q : PV} {u : Value} (hu : PVRep w φ (Stb w0 w fp) p u) (hq : datPV s p = some q) : ∃ A m c, u = .slice (some A) m c ∧ c ≠ 0 ∧ PVRep w φ (Stb w0 w fp) q (.pointer (some A)) := by
  unfold datPV at hq
  split at hq
  · rename_i m
    split at hq
    · rename_i ty k x xs hM
      cases hq
      cases hu with
      | osl hφ =>
      have hres := h.res m
      rw [hM] at hres
      obtain ⟨cells, hown, _⟩ := hres
      rw [hφ] at hown
      rcases hown with ⟨hown, _⟩ | ⟨he, _⟩
      · rcases hown.2 with ⟨hv, hz⟩ | ⟨g, cap, cur, hv, _, _, hc, _⟩
        · simp at hz
        · rw [hv]
          rw [hv] at hφ
          refine ⟨_, _, _, rfl, ?_, .oep hφ⟩
          simp at hc
          omega
      · cases he
    · cases hq
  · cases hq
theorem builtinVal_run (h : SimX w0 F0 n s a w φ fp) {b : Builtin} {args : Array Operand} {ts : Array Nat} {ty : Nat} {cs : Array Bool} {q : PV}
    (hq : builtinVal P s b (args.toList.map (ev s)) ts = some q) :
    ∃ v, (builtin b ts ty cs (args.map a.eval)).run P w = .ok (.value v) w ∧ PVRep w φ (Stb w0 w fp) q v := by
  unfold builtinVal at hq
  split at hq
  · rename_i x hargs
    cases hts : ts[0]? with
    | none => simp [hts] at hq
    | some t =>
      simp only [hts] at hq
      split at hq
      · rename_i hsl
        obtain ⟨m, hm, rfl⟩ := Option.map_eq_some_iff.1 hq
        obtain ⟨e, he⟩ := isSlT_run hsl
        obtain ⟨o, rfl, hx⟩ := args_one hargs
        have hr := h.ev o
        rw [hx] at hr
        obtain ⟨ao, cap, hv⟩ := lenPV_rep h hr hm
        refine ⟨.int .i64 m, ?_, .t (.v _)⟩
        simp [builtin, Builtin.len_, hts, hv, run_underlying he, goInt]
      · split at hq
        · rename_i hst
          obtain ⟨bs, hb, rfl⟩ := Option.map_eq_some_iff.1 hq
          obtain ⟨o, rfl, hx⟩ := args_one hargs
          have hr := h.ev o
          rw [hx] at hr
          have hv := strPV_rep hr hb
          refine ⟨.int .i64 bs.size, ?_, .t (.v _)⟩
          simp [builtin, Builtin.len_, hts, hv, run_underlying (isStrT_eq hst), goInt]
        · split at hq
          · rename_i hmt
            obtain ⟨m, hm, rfl⟩ := Option.map_eq_some_iff.1 hq
            obtain ⟨o, rfl, hx⟩ := args_one hargs
            have hr := h.ev o
            rw [hx] at hr
            obtain ⟨r, ents, clock, hv, hb, hl⟩ := cntPV_rep h hr hm
            obtain ⟨⟨kt, et⟩, hke⟩ := Option.isSome_iff_exists.1 hmt
            have hu := mapT_und hke
            refine ⟨.int .i64 m, ?_, .t (.v _)⟩
            simp [builtin, Builtin.len_, hts, hv, run_underlying hu, MapKept.run_getObj_map hb, goInt, hl]
          · cases hq
  · rename_i k1 k x k2 k' y hargs
    split at hq
    · rename_i hk
      subst hk
      cases hq
      obtain ⟨o, o', rfl, hx, hy⟩ := args_two hargs
      have h1 := h.ev o
      have h2 := h.ev o'
      rw [hx] at h1
      rw [hy] at h2
      refine ⟨_, ?_, .t (.v _)⟩
      simp [builtin, h1.t_inv.v_inv, h2.t_inv.v_inv, run_min_int2]
    · cases hq
  · rename_i k1 k x k2 k' y hargs
    split at hq
    · rename_i hk
      subst hk
      cases hq
      obtain ⟨o, o', rfl, hx, hy⟩ := args_two hargs
      have h1 := h.ev o
      have h2 := h.ev o'
      rw [hx] at h1
      rw [hy] at h2
      refine ⟨_, ?_, .t (.v _)⟩
      simp [builtin, Builtin.max_, Builtin.max2, h1.t_inv.v_inv, h2.t_inv.v_inv]
    · cases hq
  · rename_i x hargs
    obtain ⟨o, rfl, hx⟩ := args_one hargs
    have hr := h.ev o
    rw [hx] at hr
    obtain ⟨A, m, c, hv, hc, hrep⟩ := datPV_rep h hr hq
    refine ⟨.pointer (some A), ?_, hrep⟩
    simp [builtin, hv, Lib.run_unsafeSliceData_row _ _ _ A m c hc]
  · cases hq

theorem convert_run {src dst : Nat} {k : IntKind} (h : cvT P src dst = some k) (k' : IntKind) (m : Int) (w : World) : (convert src dst (.int k' m)).run P w = .ok (.int k (k.wrap m)) w := by
  unfold cvT at h
  split at h
  · rename_i d k0 hs hd
    cases h
    simp only [convert, Sem.run_bind, run_underlying hs, run_underlying hd, Result.andThen_ok]
    cases d <;> simp [Conv.intToInt]
  · cases h

theorem nilPV_rep {St : Kind → Nat → Prop} {p q : PV} {u : Value} (hu : PVRep w φ St p u) (hq : nilPV p = some q) : ∃ A, u = .pointer (some A) ∧ q = p := by
  unfold nilPV at hq
  split at hq
  · cases hq
    cases hu with
    | ptr h => exact ⟨_, rfl, rfl⟩
  · cases hq
    cases hu.t_inv with
    | rp g hb hc hrep => exact ⟨_, rfl, rfl⟩
  · cases hq
    cases hu with
    | oep h => exact ⟨_, rfl, rfl⟩
  · cases hq

theorem opVal_run (h : SimX w0 F0 n s a w φ fp) {o : Oper} {q : PV} (hq : opVal P s o.op = some q) :
    ∃ v, (execOp a.eval o).run P w = .ok (.value v) w ∧ PVRep w φ (Stb w0 w fp) q v := by
  cases ho : o.op <;> simp only [ho, opVal, reduceCtorEq] at hq
  case move x => cases hq; exact ⟨_, by simp [execOp, ho], h.ev x⟩
  case assign x => cases hq; exact ⟨_, by simp [execOp, ho], h.ev x⟩
  case pick c x y =>
    have hc := h.ev c
    split at hq
    · rename_i k b he
      cases hq
      rw [he] at hc
      have hv := hc.t_inv.v_inv
      refine ⟨if b then a.eval x else a.eval y, by simp [execOp, ho, hv, asBool], ?_⟩
      cases b
      · exact h.ev y
      · exact h.ev x
    · cases hq
  case binOp op t x y t' =>
    have hx := h.ev x
    have hy := h.ev y
    split at hq
    · rename_i k u k' u' he he'
      obtain ⟨v, hv, rfl⟩ := Option.map_eq_some_iff.1 hq
      rw [he] at hx
      rw [he'] at hy
      have := sBinT_run (P := P) (t := t) (xo := x) (yo := y) hv w
      refine ⟨v, ?_, .t (.v _)⟩
      simp only [execOp, ho, hx.t_inv.v_inv, hy.t_inv.v_inv]
      exact run_value this
    · cases hq
  case unOp op t x =>
    have hx := h.ev x
    split at hq
    · rename_i k u he
      obtain ⟨v, hv, rfl⟩ := Option.map_eq_some_iff.1 hq
      rw [he] at hx
      refine ⟨v, ?_, .t (.v _)⟩
      simp only [execOp, ho, hx.t_inv.v_inv]
      exact run_value (sUn_run hv w)
    · cases hq
  case convert src dst x =>
    have hx := h.ev x
    split at hq
    · rename_i k kk m k' he hc
      cases hq
      rw [he] at hx
      refine ⟨_, ?_, .t (.v _)⟩
      simp only [execOp, ho, hx.t_inv.v_inv]
      exact run_value (convert_run hc kk m w)
    · cases hq
  case nilCheck x =>
    have hx := h.ev x
    obtain ⟨A, hA, hqq⟩ := nilPV_rep hx hq
    refine ⟨_, ?_, by rw [hqq]; exact hx⟩
    simp [execOp, ho, hA]
  case fieldAddr t x f =>
    have hx := h.ev x
    split at hq
    · rename_i d sz hf
      split at hq
      · cases hq
      · rename_i hsz
        obtain ⟨b, oo, hA, hr⟩ := addrPV_rep d hx hq
        refine ⟨_, ?_, hr⟩
        simp only [execOp, ho, hA]
        exact run_value (fieldAddr_run hf hsz w b oo)
    · cases hq
  case indexAddr t x i =>
    have hx := h.ev x
    have hi := h.ev i
    split at hq
    · rename_i k kk i' he
      rw [he] at hi
      obtain ⟨v, hv, hr⟩ := idxPV_run h (k := kk) hx hq
      refine ⟨v, ?_, hr⟩
      simp only [execOp, ho, hi.t_inv.v_inv]
      exact run_value hv
    · cases hq
  case load t x =>
    have hx := h.ev x
    split at hq
    · rename_i sz ag hs ha
      obtain ⟨v, hv, hr⟩ := loadPV_run h hs ha hx hq
      refine ⟨v, ?_, hr⟩
      simp only [execOp, ho]
      exact run_value hv
    · cases hq
  case extract x i =>
    have hx := h.ev x
    split at hq
    · rename_i k cs he
      rw [he] at hx
      obtain ⟨y, hy, rfl⟩ := Option.map_eq_some_iff.1 hq
      generalize hu : a.eval x = u at hx
      cases hx.t_inv with
      | tup vs hs hrep =>
      have hlt : i < vs.size := by rw [hs]; exact (List.getElem?_eq_some_iff.1 hy).1
      refine ⟨vs.getD i Go.undef, ?_, .t (hrep _ _ hy)⟩
      simp [execOp, ho, hu, Instr.extract, hlt]
    · rename_i cs he
      rw [he] at hx
      generalize hu : a.eval x = u at hx
      cases hx with
      | tup vs hs hrep =>
      have hlt : i < vs.size := by rw [hs]; exact (List.getElem?_eq_some_iff.1 hq).1
      refine ⟨vs.getD i Go.undef, ?_, hrep _ _ hq⟩
      simp [execOp, ho, hu, Instr.extract, hlt]
    · cases hq
  case field t x f =>
    have hx := h.ev x
    split at hq
    · rename_i d sz ag hf ha
      obtain ⟨vs, hu, v, hv, hr⟩ := partPV_rep hx hq
      refine ⟨v, ?_, hr⟩
      simp only [execOp, ho, hu]
      exact run_value (field_run hf ha w vs v hv)
    · cases hq
  case index t x i =>
    have hx := h.ev x
    have hi := h.ev i
    split at hq
    · rename_i k kk i' he
      rw [he] at hi
      unfold idxVal at hq
      split at hq
      · rename_i k' b hb
        rw [hb] at hx
        split at hq
        · rename_i hcond
          obtain ⟨c, hc, rfl⟩ := Option.map_eq_some_iff.1 hq
          refine ⟨.int .u8 (c.toNat : Int), ?_, .t (.v _)⟩
          simp only [execOp, ho, hx.t_inv.v_inv, hi.t_inv.v_inv]
          exact run_value (stridx_run hcond.1 w kk i' hcond.2 hc)
        · cases hq
      · split at hq
        · rename_i len sz ag har ha
          split at hq
          · rename_i hcond
            obtain ⟨vs, hu, v, hv, hr⟩ := partPV_rep hx hq
            refine ⟨v, ?_, hr⟩
            simp only [execOp, ho, hu, hi.t_inv.v_inv]
            exact run_value (index_run har ha w kk i' hcond.1 hcond.2 vs v hv)
          · cases hq
        · cases hq
    · cases hq
  case makeFunc fn first caps =>
    cases fn <;> simp only [reduceCtorEq] at hq
    rename_i f
    split at hq
    · rename_i hf
      cases hq
      have hf' : first = #[] := Array.eq_empty_of_size_eq_zero hf
      subst hf'
      refine ⟨.func (.func f) #[] (caps.map a.eval), by simp [execOp, ho, Instr.makeFunc], .clo _ (by simp) fun j x hx => ?_⟩
      rw [List.getElem?_map] at hx
      obtain ⟨y, hy, rfl⟩ := Option.map_eq_some_iff.1 hx
      rw [Array.getElem?_toList] at hy
      have : (caps.map a.eval).getD j Go.undef = a.eval y := by
        simp [Array.getD_eq_getD_getElem?, hy]
      rw [this]
      exact h.ev y
    · cases hq
  case slice t x lo hi mx =>
    have hx := h.ev x
    split at hq
    · cases hq
    · rename_i hc
      obtain ⟨v, hv, hr⟩ := slicePV_run h hx hq (fun hm => by
        cases hi with
        | none => simp [hm] at hc
        | some _ => rfl)
      refine ⟨v, ?_, hr⟩
      simp only [execOp, ho]
      exact run_value hv
  case call c =>
    split at hq
    · rename_i b hb
      obtain ⟨v, hv, hr⟩ := builtinVal_run h (ty := o.type) (cs := c.args.map fun | .const _ => true | _ => false) hq
      refine ⟨v, ?_, hr⟩
      simp only [execOp, ho, resolve, hb, Sem.run_bind, Sem.run_pure, Result.andThen_ok, invoke]
      exact hv
    · cases hq
  case lookup t x i ok =>
    obtain ⟨v, hr, hv⟩ := lookPV_run h (h.ev x) (h.ev i) hq
    exact ⟨v, by simp only [execOp, ho]; exact run_value hr, hv⟩
  case entry x =>
    obtain ⟨v, hr, hv⟩ := entPV_run h (h.ev x) hq
    exact ⟨v, by simp only [execOp, ho]; exact run_value hr, hv⟩

end
end Go.PS
/- PS7: new blocks (a variable, a boxed value), writes, literals. -/
namespace Go.PS
open Go Go.RowKit

def TL.leaf : TL → Bool
  | .v x => x.oneCell'
  | .sl _ _ _ => true
  | .rp _ _ => true
  | .clo _ _ => true
  | .one => true
  | _ => false

def cellsPV : PV → Option (List PV)
  | .agg cs => some cs
  | .t k (.agg cs) => some (cs.map (PV.t k))
  | .t k x => if x.leaf then some [.t k x] else none
  | .tup _ => none
  | .undef => none
  | .mx _ _ _ _ => none
  | p => some [p]

def Kind.join (k k' : Kind) : Kind := match k, k' with
  | .fz, .fz => .fz
  | _, _ => .ro

def lowerPV : PV → Option (Kind × TL)
  | .t _ (.v x) => if x.oneCell' then some (.fz, .v x) else none
  | .t k x => if x.leaf then some (k, x) else none
  | _ => none

def lowerL : List PV → Option (Kind × List TL)
  | [] => some (.fz, [])
  | p :: l => match lowerPV p, lowerL l with
    | some (k, x), some (k', xs) => some (k.join k', x :: xs)
    | _, _ => none

def spl {α : Type} (cs : List α) (off : Nat) (ps : List α) : List α := cs.take off ++ ps ++ cs.drop (off + ps.length)
def upd {α : Type} (cs : List α) (off : Nat) (ps : List α) : List α := match ps with
  | [x] => cs.set off x
  | ps => spl cs off ps

theorem spl_get {α : Type} {cs ps : List α} {off : Nat} (h : off + ps.length ≤ cs.length) (i : Nat) : (spl cs off ps)[i]? = if off ≤ i ∧ i < off + ps.length then ps[i - off]? else cs[i]? := by
  unfold spl
  rw [List.append_assoc]
  by_cases h1 : i < off
  · rw [List.getElem?_append_left (by simp; omega), List.getElem?_take, if_pos h1, if_neg (by omega)]
  · rw [List.getElem?_append_right (by simp; omega)]
    have hl : (cs.take off).length = off := by simp; omega
    rw [hl]
    by_cases h2 : i < off + ps.length
    · rw [List.getElem?_append_left (by omega), if_pos ⟨by omega, h2⟩]
    · rw [List.getElem?_append_right (by omega), if_neg (by omega), List.getElem?_drop]
      congr 1
      omega

theorem spl_length {α : Type} {cs ps : List α} {off : Nat} (h : off + ps.length ≤ cs.length) : (spl cs off ps).length = cs.length := by
  unfold spl; simp; omega

theorem upd_get {α : Type} {cs ps : List α} {off : Nat} (h : off + ps.length ≤ cs.length) (i : Nat) : (upd cs off ps)[i]? = if off ≤ i ∧ i < off + ps.length then ps[i - off]? else cs[i]? := by
  unfold upd
  split
  · rename_i x
    simp only [List.length_cons, List.length_nil, Nat.zero_add] at h ⊢
    by_cases e : off = i
    · subst e
      rw [List.getElem?_set_self (by omega), if_pos (by omega)]
      simp
    · rw [List.getElem?_set_ne e, if_neg (by omega)]
  · exact spl_get h i

theorem upd_length {α : Type} {cs ps : List α} {off : Nat} (h : off + ps.length ≤ cs.length) : (upd cs off ps).length = cs.length := by
  unfold upd
  split
  · simp
  · exact spl_length h

theorem Stb.weak {w0 : Base} {w : World} {fp : Nat → Nat → Prop} {k k' : Kind} {g : Nat} (h : Stb w0 w fp (k.join k') g ∨ Stb w0 w fp k g) : Stb w0 w fp .ro g := by
  rcases h with h | h <;> exact ⟨h.1, h.2.1, h.2.2.imp id fun e => ⟨rfl, e.2⟩⟩

theorem TRep.join {w0 : Base} {w : World} {fp : Nat → Nat → Prop} {k : Kind} {x : TL} {v : Value} (h : TRep w (Stb w0 w fp k) x v) (k' : Kind) : TRep w (Stb w0 w fp (k.join k')) x v := by
  refine h.mono (fun _ _ => rfl) fun g hg => ?_
  cases k <;> cases k' <;> first | exact hg | exact ⟨hg.1, hg.2.1, hg.2.2.imp id fun e => ⟨rfl, e.2⟩⟩

theorem Kind.join_comm (k k' : Kind) : k.join k' = k'.join k := by cases k <;> cases k' <;> rfl

section
variable {P : Program} {w0 : Base} {F0 : Nat → Prop} {n : Nat} {s : StL} {a : Act} {w : World} {φ : Nat → Value} {fp : Nat → Nat → Prop}

theorem TRep.leaf_one {S : Nat → Prop} {x : TL} {v : Value} (h : TRep w S x v) (hl : x.leaf = true) : v.oneCell' = true := by
  cases h <;> simp_all [TL.leaf, Value.oneCell']

theorem oneCell_cells {v : Value} (h : v.oneCell' = true) : v.cells = #[v] := by
  cases v <;> simp_all [Value.oneCell', Value.cells]

theorem cellsPV_rep {St : Kind → Nat → Prop} {p : PV} {u : Value} {cs : List PV} (hu : PVRep w φ St p u) (hc : cellsPV p = some cs) :
    u.cells.size = cs.length ∧ ∀ (j : Nat) (x : PV), cs[j]? = some x → PVRep w φ St x (u.cells.getD j Go.undef) := by
  unfold cellsPV at hc
  split at hc
  · cases hc
    cases hu with
    | agg vs hs hrep => exact ⟨hs, hrep⟩
  · cases hc
    cases hu.t_inv with
    | agg vs hs hrep =>
      refine ⟨by simp [Value.cells, hs], fun j x hx => ?_⟩
      rw [List.getElem?_map] at hx
      obtain ⟨y, hy, rfl⟩ := Option.map_eq_some_iff.1 hx
      exact .t (hrep _ _ hy)
  · split at hc
    · rename_i hl
      cases hc
      have h1 := oneCell_cells (hu.t_inv.leaf_one hl)
      rw [h1]
      refine ⟨by simp, fun j x hx => ?_⟩
      cases j with
      | zero => simp at hx; subst hx; simpa using hu
      | succ j => simp at hx
    · cases hc
  · cases hc
  · cases hc
  · cases hc
  · rename_i h1 h2 h3 h4 h5 h6
    cases hc
    have h1 : u.cells = #[u] := by
      cases hu with
      | t h => exact absurd rfl (h3 _ _)
      | agg => exact absurd rfl (h1 _)
      | tup => exact absurd rfl (h4 _)
      | undef => exact absurd rfl h5
      | mx => exact absurd rfl (h6 _ _ _ _)
      | ptr => rfl
      | osl => rfl
      | oep => rfl
      | omp => rfl
      | osv => rfl
      | clo => rfl
    rw [h1]
    refine ⟨by simp, fun j x hx => ?_⟩
    cases j with
    | zero => simp at hx; subst hx; simpa using hu
    | succ j => simp at hx

theorem menL_map (k : Kind) (d : Nat) : ∀ cs : List TL, PV.menL d (cs.map (PV.t k)) = false
  | [] => rfl
  | c :: cs => by simp [PV.menL, PV.men, menL_map k d cs]

theorem cellsPV_men {p : PV} {cs : List PV} {d : Nat} (hc : cellsPV p = some cs) (hm : p.men d = false) : PV.menL d cs = false := by
  unfold cellsPV at hc
  split at hc
  · cases hc; simpa [PV.men] using hm
  · cases hc; exact menL_map _ _ _
  · split at hc
    · cases hc; simp [PV.menL, PV.men]
    · cases hc
  · cases hc
  · cases hc
  · cases hc
  · cases hc; simp [PV.menL, hm]

theorem ev_men {d : Nat} (h : s.free d = true) (x : Operand) : (ev s x).men d = false := by
  simp only [StL.free, Bool.and_eq_true] at h
  cases x with
  | tmp t => exact getT_men h.1.1 t
  | const v => cases v <;> rfl
  | func f => simp [ev, PV.men, PV.menL]
  | global g => simp only [PS.ev]; cases glT g <;> cases glU g <;> rfl

/-- A boxed value, a variable: block and name. -/
theorem SimX.newBlk (h : SimX w0 F0 n s a w φ fp) {d : Nat} (hd : s.free d = true) (hdn : d < n) (ty : Nat) {vs : Array Value} {cs : List PV} (hs : vs.size = cs.length) (hm : PV.menL d cs = false)
    (hr : ∀ (j : Nat) (x : PV), cs[j]? = some x → PVRep w φ (Stb w0 w fp) x (vs.getD j Go.undef)) :
    Sim w0 F0 n ⟨(d, .ptr d 0) :: s.T, (d, .blk ty cs) :: s.M⟩ (a.put (some d) (.pointer (some ⟨w.heap.size, 0, none⟩))) (w.alloc (.cells vs ty)) := by
  obtain ⟨φ', fp', h', hne, hv⟩ := h.new hd (o := .cells vs ty) (r := .blk ty cs) (v := .pointer (some ⟨w.heap.size, 0, none⟩)) (by
    intro φ' fp' hne hv hS hSc
    refine ⟨w.heap.size, vs, rfl, fun _ => Iff.rfl, heap_alloc_new w _, hs, fun j x hx => ((hr j x hx).mono hSc hS).rename fun m hm' => hne m ?_⟩
    rintro rfl
    rw [PV.menL_get hx hm] at hm'
    cases hm')
  exact ⟨φ', fp', h'.put hdn (.ptr hv)⟩

theorem run_newVar {t : Nat} (v : Value) (w : World) : (newVar t v).run P w = .ok ⟨w.heap.size, 0, none⟩ (w.alloc (.cells v.cells t)) := by
  simp [newVar, newRow]

def zT (P : Program) (t : Nat) : Option (List Value) := ((P.info? t).bind (·.zero)).map fun z => z.cells.toList

theorem zT_run {t : Nat} {l : List Value} (h : zT P t = some l) (w : World) : ∃ z : Value, (zeroValue t).run P w = .ok z w ∧ z.cells.toList = l := by
  unfold zT at h
  obtain ⟨z, hz, rfl⟩ := Option.map_eq_some_iff.1 h
  obtain ⟨i, hi, hz⟩ := Option.bind_eq_some_iff.1 hz
  exact ⟨z, by simp [zeroValue, typeInfo, hi, hz], rfl⟩

end

/-- What a store leaves. -/
def storePV (P : Program) (s : StL) (t : Nat) (p v : PV) : Option StL :=
  match cellsPV v, szT P t with
  | some us, some sz =>
    if us.length = sz then
      match p with
      | .ptr m off => match getM s.M m with
        | .blk ty cs => if off + us.length ≤ cs.length ∧ us.all (fun p => match p with | .t _ x => x.leaf | .agg _ => false | .tup _ => false | .undef => false | .mx _ _ _ _ => false | _ => true) then some ⟨s.T, (m, .blk ty (upd cs off us)) :: s.M⟩ else none
        | _ => none
      | .oep m sz' i off => match getM s.M m, lowerL us with
        | .row ty sz'' k xs, some (k', es) =>
          if sz' = sz'' ∧ i < xs.length ∧ off + es.length ≤ sz' then some ⟨s.T, (m, .row ty sz'' (k.join k') (xs.set i (upd (xs.getD i []) off es))) :: s.M⟩ else none
        | _, _ => none
      | .mx m 2 i j => match getM s.M m, us with
        | .mat t0 t1 X, [.t _ (.v (.int .i64 y))] => if i < X.length ∧ j < (X.getD i []).length then some ⟨s.T, (m, .mat t0 t1 (X.set i ((X.getD i []).set j y))) :: s.M⟩ else none
        | _, _ => none
      | _ => none
    else none
  | _, _ => none
/-- The numbers of a row. -/
def intsOf : List (List TL) → Option (List Int)
  | [] => some []
  | [.v (.int .i64 x)] :: l => (intsOf l).map (x :: ·)
  | _ => none
def mx0 (m : Nat) : PV → PV
  | .mx n 0 i j => .mx n 0 i j
  | p => if p.men m then .undef else p

section
variable {P : Program} {w0 : Base} {F0 : Nat → Prop} {n : Nat} {s : StL} {a : Act} {w : World} {φ : Nat → Value} {fp : Nat → Nat → Prop}

theorem lowerPV_rep {p : PV} {u : Value} {k : Kind} {x : TL} (hu : PVRep w φ (Stb w0 w fp) p u) (hl : lowerPV p = some (k, x)) : TRep w (Stb w0 w fp k) x u ∧ u.oneCell' = true := by
  unfold lowerPV at hl
  split at hl
  · split at hl
    · cases hl
      have := hu.t_inv.v_inv
      subst this
      exact ⟨.v _, by assumption⟩
    · cases hl
  · split at hl
    · rename_i hlf
      cases hl
      exact ⟨hu.t_inv, hu.t_inv.leaf_one hlf⟩
    · cases hl
  · cases hl

theorem lowerL_rep : ∀ {ps : List PV} {k : Kind} {xs : List TL} {us : Nat → Value}, (∀ (j : Nat) (x : PV), ps[j]? = some x → PVRep w φ (Stb w0 w fp) x (us j)) → lowerL ps = some (k, xs) →
    xs.length = ps.length ∧ (∀ (j : Nat) (x : TL), xs[j]? = some x → TRep w (Stb w0 w fp k) x (us j)) ∧ ∀ j, j < ps.length → (us j).oneCell' = true
  | [], k, xs, us, hr, hl => by
    simp only [lowerL, Option.some.injEq, Prod.mk.injEq] at hl
    obtain ⟨rfl, rfl⟩ := hl
    exact ⟨rfl, fun j x hx => by simp at hx, fun j hj => by simp at hj⟩
  | p :: ps, k, xs, us, hr, hl => by
    simp only [lowerL] at hl
    split at hl
    · rename_i k1 x k2 xs' h1 h2
      simp only [Option.some.injEq, Prod.mk.injEq] at hl
      obtain ⟨rfl, rfl⟩ := hl
      obtain ⟨hl2, hr2, ho2⟩ := lowerL_rep (us := fun j => us (j + 1)) (fun j x hx => hr (j + 1) x (by simpa using hx)) h2
      obtain ⟨hr1, ho1⟩ := lowerPV_rep (hr 0 p (by simp)) h1
      refine ⟨by simp [hl2], fun j x' hx => ?_, fun j hj => ?_⟩
      · cases j with
        | zero => simp at hx; subst hx; exact hr1.join _
        | succ j => rw [Kind.join_comm]; exact (hr2 j x' (by simpa using hx)).join _
      · cases j with
        | zero => exact ho1
        | succ j => exact ho2 j (by simpa using hj)
    · cases hl

theorem run_storeVar_row {t g off sz : Nat} {ty : Nat} {cur : Array Value} {v : Value} (hs : szT P t = some sz) (hv : v.cells.size = sz) (hg : w.heap[g]? = some (.cells cur ty (0, 0))) (hle : off + sz ≤ cur.size)
    (h1 : ∀ u ∈ v.cells.toList, u.oneCell' = true) :
    (storeVar t ⟨g, off, none⟩ v).run P w = .ok () (w.setRow g (spl cur.toList off v.cells.toList).toArray) := by
  have := run_storeCells_at P g off ty v.cells.toList 0 cur w hg (by simp; omega) h1
  simp only [Nat.add_zero] at this
  simp only [storeVar, Sem.run_bind, szT_run hs, Result.andThen_ok, hv]
  simp [this, spl]

theorem leafAll {us : List PV} (h : us.all (fun p => match p with | .t _ x => x.leaf | .agg _ => false | .tup _ => false | .undef => false | .mx _ _ _ _ => false | _ => true) = true) {v : Value}
    (hs : v.cells.size = us.length) (hr : ∀ (j : Nat) (x : PV), us[j]? = some x → PVRep w φ (Stb w0 w fp) x (v.cells.getD j Go.undef)) : ∀ u ∈ v.cells.toList, u.oneCell' = true := by
  intro u hu
  obtain ⟨j, hj⟩ := List.getElem?_of_mem hu
  rw [Array.getElem?_toList] at hj
  have hlt : j < v.cells.size := (Array.getElem?_eq_some_iff.1 hj).1
  have hx : us[j]? = some us[j] := List.getElem?_eq_getElem (by omega)
  have hd : v.cells.getD j Go.undef = u := by simp [Array.getD_eq_getD_getElem?, hj]
  have := hr j _ hx
  rw [hd] at this
  have hl := (List.all_eq_true.1 h) _ (List.getElem_mem (l := us) (by omega : j < us.length))
  generalize us[j] = p at this hl
  cases this with
  | t h => exact h.leaf_one hl
  | ptr => rfl
  | osl => rfl
  | oep => rfl
  | omp => rfl
  | osv => rfl
  | clo => rfl
  | agg => simp at hl
  | tup => simp at hl
  | mx => simp at hl
  | undef => simp at hl

theorem storePV_run (h : SimX w0 F0 n s a w φ fp) {t : Nat} {p v : PV} {up uv : Value} {s' : StL} (hp : PVRep w φ (Stb w0 w fp) p up) (hv : PVRep w φ (Stb w0 w fp) v uv) (hq : storePV P s t p v = some s') :
    ∃ w', (Instr.storeAt t up uv).run P w = .ok () w' ∧ SimX w0 F0 n s' a w' φ fp := by
  unfold storePV at hq
  split at hq
  · rename_i us sz hus hsz
    obtain ⟨hsize, hcell⟩ := cellsPV_rep hv hus
    split at hq
    · rename_i hlen
      split at hq
      · rename_i m off
        cases hp with
        | @ptr _ _ g hφ =>
        split at hq
        · rename_i ty cs hM
          split at hq
          · rename_i hcond
            obtain ⟨hle, hleaf⟩ := hcond
            cases hq
            have hres := h.res m
            rw [hM] at hres
            obtain ⟨g', vs, hvv, hF, hh, hsv, hrep⟩ := hres
            rw [hφ] at hvv
            cases hvv
            have hrun := run_storeVar_row (P := P) (off := off) (v := uv) hsz (by omega) hh (by omega) (leafAll hleaf hsize hcell)
            refine ⟨_, by simp only [Instr.storeAt, Instr.sureAddr, Sem.run_bind, Sem.run_pure, Result.andThen_ok]; exact hrun, ?_⟩
            refine h.write rfl rfl rfl (by simp [World.setRow]) (fun k hk => setRow_other w g k _ (fun e => hk ((hF _).2 e))) fun hS hSc => ?_
            refine ⟨g, _, hφ, hF, setRow_heap w g vs _ ty _ hh, ?_, fun j x hx => ?_⟩
            · have : (spl vs.toList off uv.cells.toList).length = vs.toList.length := spl_length (by simp; omega)
              simp only [List.size_toArray, this, upd_length hle]
              simpa using hsv
            · rw [upd_get hle] at hx
              have hg : (spl vs.toList off uv.cells.toList).toArray.getD j Go.undef = ((spl vs.toList off uv.cells.toList)[j]?).getD Go.undef := by simp [Array.getD_eq_getD_getElem?]
              rw [hg, spl_get (by simp; omega)]
              by_cases hc : off ≤ j ∧ j < off + us.length
              · rw [if_pos hc] at hx
                rw [if_pos (by simp; omega)]
                have := (hcell _ _ hx).mono hSc hS
                simpa [Array.getD_eq_getD_getElem?] using this
              · rw [if_neg hc] at hx
                rw [if_neg (by simp; omega)]
                have := (hrep _ _ hx).mono hSc hS
                simpa [Array.getD_eq_getD_getElem?] using this
          · cases hq
        · cases hq
      · rename_i m sz' i off
        cases hp with
        | @oep _ _ _ _ g len cap hφ =>
        split at hq
        · rename_i ty sz'' k xs k' es hM hes
          split at hq
          · rename_i hcond
            obtain ⟨rfl, hi, hle⟩ := hcond
            cases hq
            have hres := h.res m
            rw [hM] at hres
            obtain ⟨cells, hown, hbd, hlenx, hrep⟩ := hres
            rw [hφ] at hown
            obtain ⟨hown, hF⟩ := hown.resolve_right (by rintro ⟨rfl, _⟩; simp at hi)
            obtain ⟨hle1, hre, hone⟩ := lowerL_rep (us := fun j => uv.cells.getD j Go.undef) hcell hes
            obtain ⟨hcl, hor⟩ := hown
            obtain ⟨g', cap', cur, hv', hb0, hh, hc1, hc2, hc3, htake⟩ := hor.resolve_left (by rintro ⟨h1, _⟩; cases h1)
            simp only [Value.slice.injEq, Option.some.injEq, Addr.mk.injEq, and_true] at hv'
            obtain ⟨rfl, hlen', rfl⟩ := hv'
            have hmul : (i + 1) * sz' ≤ xs.length * sz' := Nat.mul_le_mul_right _ hi
            have hmul' : xs.length * sz' ≤ cap * sz' := Nat.mul_le_mul_right _ hc1
            rw [Nat.add_mul] at hmul
            have hone' : ∀ u ∈ uv.cells.toList, u.oneCell' = true := by
              intro u hu
              obtain ⟨j, hj⟩ := List.getElem?_of_mem hu
              rw [Array.getElem?_toList] at hj
              have hlt : j < uv.cells.size := (Array.getElem?_eq_some_iff.1 hj).1
              have := hone j (by omega)
              simpa [Array.getD_eq_getD_getElem?, hj] using this
            have hsz0 : uv.cells.toList.length = es.length := by simp; omega
            have hrun := run_storeVar_row (P := P) (off := i * sz' + off) (v := uv) hsz (by omega) hh (by omega) hone'
            refine ⟨_, by simp only [Instr.storeAt, Instr.sureAddr, Sem.run_bind, Sem.run_pure, Result.andThen_ok]; exact hrun, ?_⟩
            refine h.write rfl rfl rfl (by simp [World.setRow]) (fun q hq => setRow_other w g q _ (fun e => hq ((hF _).2 (by rw [e]; rfl)))) fun hS hSc => ?_
            have hspl : i * sz' + off + uv.cells.toList.length ≤ cur.toList.length := by simp; omega
            have hxe : xs[i]? = some (xs.getD i []) := by
              rw [List.getD_eq_getElem?_getD, List.getElem?_eq_getElem hi]; rfl
            have hel : (xs.getD i []).length = sz' := hlenx _ (List.mem_of_getElem? hxe)
            have hupl : (upd (xs.getD i []) off es).length = sz' := by rw [upd_length (by omega), hel]
            refine ⟨(spl cur.toList (i * sz' + off) uv.cells.toList).take (xs.length * sz'), .inl ⟨⟨?_, .inr ⟨g, cap, _, by rw [hφ, hlen']; simp, Nat.zero_le _, setRow_heap w g cur _ ty _ hh, by simpa using hc1, hc2, ?_, by simp⟩⟩, fun q => by rw [hφ]; exact hF q⟩, by simpa using hbd, fun e he => ?_, fun i' j e x he hx => ?_⟩
            · rw [List.length_take, spl_length hspl, List.length_set]
              simp; omega
            · simp [spl_length hspl, hc3]
            · rcases List.mem_or_eq_of_mem_set he with he | he
              · exact hlenx e he
              · rw [he]; exact hupl
            · have hi' : i' < xs.length := by
                have := (List.getElem?_eq_some_iff.1 he).1
                simpa using this
              have hj : j < sz' := by
                have h1 := (List.getElem?_eq_some_iff.1 hx).1
                have h2 : e.length = sz' := by
                  rcases List.mem_or_eq_of_mem_set (List.mem_of_getElem? he) with he' | he'
                  · exact hlenx e he'
                  · rw [he']; exact hupl
                omega
              have hmul2 : (i' + 1) * sz' ≤ xs.length * sz' := Nat.mul_le_mul_right _ hi'
              rw [Nat.add_mul] at hmul2
              have hold : cells.getD (i' * sz' + j) Go.undef = (cur.toList[i' * sz' + j]?).getD Go.undef := by
                rw [← htake, List.getD_eq_getElem?_getD, List.getElem?_take, if_pos (by omega)]
              have hnew : ((spl cur.toList (i * sz' + off) uv.cells.toList).take (xs.length * sz')).getD (i' * sz' + j) Go.undef = ((spl cur.toList (i * sz' + off) uv.cells.toList)[i' * sz' + j]?).getD Go.undef := by
                rw [List.getD_eq_getElem?_getD, List.getElem?_take, if_pos (by omega)]
              rw [hnew, spl_get hspl]
              by_cases hii : i = i'
              · subst hii
                rw [List.getElem?_set_self hi] at he
                cases he
                rw [upd_get (by omega)] at hx
                by_cases hc : off ≤ j ∧ j < off + es.length
                · rw [if_pos hc] at hx
                  rw [if_pos (by omega)]
                  have h0 := ((hre _ _ hx).mono (hSc _) (hS _)).join k
                  rw [Kind.join_comm] at h0
                  have e1 : i * sz' + j - (i * sz' + off) = j - off := by omega
                  rw [e1]
                  simpa [Array.getD_eq_getD_getElem?] using h0
                · rw [if_neg hc] at hx
                  rw [if_neg (by omega)]
                  have h0 := ((hrep i j _ x hxe hx).mono (hSc _) (hS _)).join k'
                  rw [hold] at h0
                  exact h0
              · rw [List.getElem?_set_ne hii] at he
                rw [if_neg (by
                  rintro ⟨h1, h2⟩
                  rcases Nat.lt_or_gt_of_ne hii with hlt | hgt
                  · have : (i + 1) * sz' ≤ i' * sz' := Nat.mul_le_mul_right _ hlt
                    rw [Nat.add_mul] at this
                    omega
                  · have : (i' + 1) * sz' ≤ i * sz' := Nat.mul_le_mul_right _ hgt
                    rw [Nat.add_mul] at this
                    omega)]
                have h0 := ((hrep i' j _ x he hx).mono (hSc _) (hS _)).join k'
                rw [hold] at h0
                exact h0
          · cases hq
        · cases hq
      · rename_i m i j
        cases hp with
        | mx hφ =>
        split at hq
        · rename_i t0 t1 X k y hM
          split at hq
          · rename_i hcond
            obtain ⟨hi, hj⟩ := hcond
            cases hq
            have hres := h.res m
            rw [hM] at hres
            obtain ⟨vs, g0, cap0, c0, G, k1, k2, k3, k4, k5, k6, k7, k8, k9, k10⟩ := hres
            have hxr : X[i]? = some (X.getD i []) := by rw [List.getD_eq_getElem?_getD, List.getElem?_eq_getElem hi]; rfl
            generalize hrr : X.getD i [] = r at *
            have hne : r ≠ [] := by
              intro e
              rw [e] at hj
              simp at hj
            obtain ⟨cap, cur, _, k12, k13, k14, k15, k16, k17, k18⟩ := (k10 i _ hxr).resolve_left (fun e => hne e.1)
            have hφ1 := hφ
            rw [k1] at hφ1
            have hφ' : ptrAt vs[i + 1]? j = some up := hφ1
            rw [k12] at hφ'
            cases hφ'
            have hc0 := hcell 0 _ rfl
            have hc0' := hc0.t_inv.v_inv
            simp only [List.length_singleton] at hlen hsize
            have hcl : uv.cells.toList = [.int .i64 y] := by
              apply List.ext_getElem
              · simpa using hsize
              · intro q h1 h2
                have : q = 0 := by simp at h2; omega
                subst this
                have hl : 0 < uv.cells.size := by omega
                simpa [Array.getD_eq_getD_getElem?, hl] using hc0'
            have hjc : j < cur.size := (Array.getElem?_eq_some_iff.1 (k18 j r[j] (List.getElem?_eq_getElem hj))).1
            have hrun := run_storeVar_row (P := P) (off := j) (v := uv) hsz (by omega) k17 (by omega) (by rw [hcl]; simp; rfl)
            refine ⟨_, by simp only [Instr.storeAt, Instr.sureAddr, Sem.run_bind, Sem.run_pure, Result.andThen_ok]; exact hrun, ?_⟩
            refine h.write rfl rfl rfl (by simp [World.setRow]) (fun q hq => setRow_other w (G i) q _ (fun e => hq (by rw [e]; exact k15))) fun hS hSc => ?_
            have hspl : j + uv.cells.toList.length ≤ cur.toList.length := by rw [hcl]; simp; omega
            refine ⟨vs, g0, cap0, c0, G, k1, by simpa using k2, by simpa using k3, by simpa using k4, by simpa using k5, k6, (setRow_other w (G i) g0 _ (fun e => k16 e.symm)).trans k7, by simpa using k8, fun a a' ra ra' ha ha' na na' e => ?_, fun a ra ha => ?_⟩
            · have old : ∀ b rb, (X.set i (r.set j y))[b]? = some rb → rb ≠ [] → ∃ rc, X[b]? = some rc ∧ rc ≠ [] := fun b rb hb nb => by
                by_cases eb : i = b
                · subst eb
                  exact ⟨r, hxr, hne⟩
                · rw [List.getElem?_set_ne eb] at hb
                  exact ⟨rb, hb, nb⟩
              obtain ⟨r1, h1, n1⟩ := old a ra ha na
              obtain ⟨r2, h2, n2⟩ := old a' ra' ha' na'
              exact k9 a a' r1 r2 h1 h2 n1 n2 e
            · by_cases ea : i = a
              · subst ea
                rw [List.getElem?_set_self hi] at ha
                cases ha
                refine .inr ⟨cap, _, by intro e; have := congrArg List.length e; simp at this; exact hne this, by rw [List.length_set]; exact k12, by rw [List.length_set]; exact k13, by rw [List.length_set]; exact k14, k15, k16, setRow_heap w (G i) cur _ t1 _ k17, fun q x hx => ?_⟩
                have hg : (spl cur.toList j uv.cells.toList).toArray[q]? = (spl cur.toList j uv.cells.toList)[q]? := by simp
                rw [hg, spl_get hspl, hcl]
                by_cases eq : j = q
                · subst eq
                  rw [List.getElem?_set_self hj] at hx
                  cases hx
                  simp
                · rw [List.getElem?_set_ne eq] at hx
                  have : ¬ (j ≤ q ∧ q < j + [Value.int .i64 y].length) := by simp; omega
                  rw [if_neg this, Array.getElem?_toList]
                  exact k18 q x hx
              · rw [List.getElem?_set_ne ea] at ha
                rcases k10 a ra ha with hh | ⟨cap', cur', m1, m2, m3, m4, m5, m6, m7, m8⟩
                · exact .inl hh
                · exact .inr ⟨cap', cur', m1, m2, m3, m4, m5, m6, (setRow_other w (G i) (G a) _ (fun e => ea (k9 a i ra r ha hxr m1 hne e).symm)).trans m7, m8⟩
          · cases hq
        · cases hq
      · cases hq
    · cases hq
  · cases hq

theorem intsOf_eq : ∀ {xs : List (List TL)} {r : List Int}, intsOf xs = some r → xs = r.map fun x => [TL.v (.int .i64 x)]
  | [], r, h => by
    simp [intsOf] at h
    subst h
    rfl
  | e :: l, r, h => by
    unfold intsOf at h
    split at h
    · rename_i heq; cases heq
    · rename_i x l' heq
      cases heq
      obtain ⟨r', hr', rfl⟩ := Option.map_eq_some_iff.1 h
      rw [intsOf_eq hr']
      rfl
    · cases h
end
end Go.PS
/- PS8: literals (build, buildSlice), make, append. -/
namespace Go.PS
open Go Go.RowKit

theorem spl_spl {α : Type} {cs ps qs : List α} {o : Nat} (h : o + ps.length + qs.length ≤ cs.length) : spl (spl cs o ps) (o + ps.length) qs = spl cs o (ps ++ qs) := by
  have h1 : o + ps.length ≤ cs.length := by omega
  apply List.ext_getElem?
  intro i
  rw [spl_get (by rw [spl_length h1]; omega), spl_get h1, spl_get (by simp; omega)]
  simp only [List.length_append]
  by_cases ha : o + ps.length ≤ i ∧ i < o + ps.length + qs.length
  · rw [if_pos ha, if_pos (by omega), List.getElem?_append_right (by omega)]
    congr 1; omega
  · rw [if_neg ha]
    by_cases hb : o ≤ i ∧ i < o + ps.length
    · rw [if_pos hb, if_pos (by omega), List.getElem?_append_left (by omega)]
    · rw [if_neg hb, if_neg (by omega)]

theorem spl_one {α : Type} {cs : List α} {o : Nat} {x : α} (h : o < cs.length) : spl cs o [x] = cs.set o x := by
  apply List.ext_getElem?
  intro i
  rw [spl_get (by simp; omega)]
  by_cases e : o = i
  · subst e
    rw [if_pos (by simp), List.getElem?_set_self h]; simp
  · rw [if_neg (by simp; omega), List.getElem?_set_ne e]

theorem fold_spl (off : Nat) : ∀ (l : List Value) (k : Nat) (acc : Array Value), off + k + l.length ≤ acc.size →
    ((l.zipIdx k).foldl (fun cs p => cs.setIfInBounds (off + p.2) p.1) acc).toList = spl acc.toList (off + k) l
  | [], k, acc, h => by simp [spl]
  | x :: l, k, acc, h => by
    simp only [List.length_cons] at h
    simp only [List.zipIdx_cons, List.foldl_cons]
    rw [fold_spl off l (k + 1) _ (by simp; omega)]
    have e1 : (acc.setIfInBounds (off + k) x).toList = spl acc.toList (off + k) [x] := by
      rw [spl_one (by simp; omega)]; simp
    rw [e1]
    have := spl_spl (cs := acc.toList) (ps := [x]) (qs := l) (o := off + k) (by simp; omega)
    simp only [List.length_cons, List.length_nil, Nat.zero_add, List.singleton_append] at this
    exact this

theorem fill_one (cells : Array Value) (off : Nat) (v : Value) (h : off + v.cells.size ≤ cells.size) :
    (v.cells.zipIdx.foldl (fun cs (p : Value × Nat) => cs.setIfInBounds (off + p.2) p.1) cells).toList = spl cells.toList off v.cells.toList := by
  rw [← Array.foldl_toList, Array.toList_zipIdx]
  have := fold_spl off v.cells.toList 0 cells (by simp; omega)
  simpa using this

/-- A literal's parts in their places. -/
theorem fill_parts (place : Nat → Option (Nat × Nat)) : ∀ (parts : List (Nat × Value)) (cells : Array Value) (offs : List Nat),
    offs.length = parts.length → (∀ (j : Nat) (p : Nat × Value) (o : Nat), parts[j]? = some p → offs[j]? = some o → place p.1 = some (o, p.2.cells.size) ∧ o + p.2.cells.size ≤ cells.size) →
    ∃ out, Instr.fill place cells parts = some out ∧ out.toList = (parts.zip offs).foldl (fun cs (p : (Nat × Value) × Nat) => spl cs p.2 p.1.2.cells.toList) cells.toList
  | [], cells, offs, hl, hp => ⟨cells, rfl, by simp⟩
  | (i, v) :: parts, cells, [], hl, hp => by simp at hl
  | (i, v) :: parts, cells, o :: offs, hl, hp => by
    obtain ⟨h1, h2⟩ := hp 0 (i, v) o (by simp) (by simp)
    simp only at h1 h2
    have hf := fill_one cells o v h2
    have hsz : (v.cells.zipIdx.foldl (fun cs (p : Value × Nat) => cs.setIfInBounds (o + p.2) p.1) cells).size = cells.size := by
      have := congrArg List.length hf
      rw [spl_length (by simp; omega)] at this
      simpa using this
    obtain ⟨out, ho, hl'⟩ := fill_parts place parts (v.cells.zipIdx.foldl (fun cs (p : Value × Nat) => cs.setIfInBounds (o + p.2) p.1) cells) offs (by simpa using hl) (fun j p o' hj ho' => by
      have := hp (j + 1) p o' (by simpa using hj) (by simpa using ho')
      rw [hsz]
      exact this)
    refine ⟨out, ?_, ?_⟩
    · rw [← ho]
      simp only [Instr.fill, h1]
      rw [if_neg (by simp; omega)]
    · rw [hl', hf]
      simp

/-- Parts as cells of a state. -/
def fillPV (cs : List PV) : List (Nat × List PV) → Option (List PV)
  | [] => some cs
  | (o, us) :: rest => if o + us.length ≤ cs.length then fillPV (upd cs o us) rest else none

/-- The places of a struct's or an array's parts. -/
def placeT (P : Program) (t i : Nat) : Option (Nat × Nat) :=
  match P.underlying t with
  | some (.struct fs) => fldT P t i
  | some (.array _ e) => (szT P e).map fun m => (i * m, m)
  | _ => none

def partsPV (P : Program) (s : StL) (t : Nat) : List (Nat × Operand) → Option (List (Nat × List PV))
  | [] => some []
  | (i, x) :: rest => match placeT P t i, cellsPV (ev s x), partsPV P s t rest with
    | some (o, m), some us, some r => if us.length = m then some ((o, us) :: r) else none
    | _, _, _ => none

def buildPV (P : Program) (s : StL) (t : Nat) (parts : List (Nat × Operand)) : Option PV :=
  match zT P t, partsPV P s t parts with
  | some z, some ps => (fillPV (z.map fun c => PV.t .fz (.v c)) ps).map PV.agg
  | _, _ => none

section
variable {P : Program} {w0 : Base} {F0 : Nat → Prop} {n : Nat} {s : StL} {a : Act} {w : World} {φ : Nat → Value} {fp : Nat → Nat → Prop}

theorem fillPV_rep {St : Kind → Nat → Prop} : ∀ (ps : List (Nat × List PV)) (qs : List ((Nat × Value) × Nat)) (cs out : List PV) (vs : List Value), cs.length = vs.length →
    (∀ (j : Nat) (x : PV), cs[j]? = some x → PVRep w φ St x (vs.getD j Go.undef)) → ps.length = qs.length →
    (∀ (i : Nat) (p : Nat × List PV) (q : (Nat × Value) × Nat), ps[i]? = some p → qs[i]? = some q → p.1 = q.2 ∧ q.1.2.cells.size = p.2.length ∧ ∀ (j : Nat) (x : PV), p.2[j]? = some x → PVRep w φ St x (q.1.2.cells.getD j Go.undef)) →
    fillPV cs ps = some out →
    out.length = vs.length ∧ ((qs.foldl (fun cs (p : (Nat × Value) × Nat) => spl cs p.2 p.1.2.cells.toList) vs).length = vs.length) ∧
      ∀ (j : Nat) (x : PV), out[j]? = some x → PVRep w φ St x ((qs.foldl (fun cs (p : (Nat × Value) × Nat) => spl cs p.2 p.1.2.cells.toList) vs).getD j Go.undef)
  | [], [], cs, out, vs, hl, hr, _, _, hf => by
    simp only [fillPV, Option.some.injEq] at hf
    subst hf
    exact ⟨hl, rfl, hr⟩
  | [], _ :: _, cs, out, vs, hl, hr, h, _, hf => by simp at h
  | _ :: _, [], cs, out, vs, hl, hr, h, _, hf => by simp at h
  | (o, us) :: ps, ((i, v), o') :: qs, cs, out, vs, hl, hr, hlen, hp, hf => by
    obtain ⟨h1, h2, h3⟩ := hp 0 (o, us) ((i, v), o') (by simp) (by simp)
    simp only at h1 h2 h3
    subst h1
    simp only [fillPV] at hf
    split at hf
    · rename_i hle
      have hle' : o + v.cells.toList.length ≤ vs.length := by simp; omega
      have := fillPV_rep ps qs (upd cs o us) out (spl vs o v.cells.toList) (by rw [upd_length hle, spl_length hle', hl]) (fun j x hx => by
        rw [upd_get hle] at hx
        rw [List.getD_eq_getElem?_getD, spl_get hle']
        by_cases hc : o ≤ j ∧ j < o + us.length
        · rw [if_pos hc] at hx
          rw [if_pos (by simp; omega)]
          have := h3 _ _ hx
          simpa [Array.getD_eq_getD_getElem?] using this
        · rw [if_neg hc] at hx
          rw [if_neg (by simp; omega)]
          have := hr _ _ hx
          rwa [List.getD_eq_getElem?_getD] at this) (by simpa using hlen) (fun i' p q hp' hq' => hp (i' + 1) p q (by simpa using hp') (by simpa using hq')) hf
      rw [spl_length hle'] at this
      exact this
    · cases hf

theorem partsPV_rep (h : SimX w0 F0 n s a w φ fp) {t : Nat} : ∀ (parts : List (Nat × Operand)) (ps : List (Nat × List PV)), partsPV P s t parts = some ps →
    ps.length = parts.length ∧ ∀ (i : Nat) (p : Nat × List PV) (q : Nat × Operand), ps[i]? = some p → parts[i]? = some q →
      placeT P t q.1 = some (p.1, p.2.length) ∧ (a.eval q.2).cells.size = p.2.length ∧ ∀ (j : Nat) (x : PV), p.2[j]? = some x → PVRep w φ (Stb w0 w fp) x ((a.eval q.2).cells.getD j Go.undef)
  | [], ps, hp => by
    simp only [partsPV, Option.some.injEq] at hp
    subst hp
    exact ⟨rfl, fun i p q h1 _ => by simp at h1⟩
  | (i, x) :: rest, ps, hp => by
    simp only [partsPV] at hp
    split at hp
    · rename_i o m us r h1 h2 h3
      split at hp
      · rename_i hm
        cases hp
        obtain ⟨hl, hr⟩ := partsPV_rep h rest r h3
        refine ⟨by simp [hl], fun j p q hj hq => ?_⟩
        cases j with
        | zero =>
          simp at hj hq
          subst hj hq
          obtain ⟨hs, hc⟩ := cellsPV_rep (h.ev x) h2
          exact ⟨by rw [h1, hm], hs, hc⟩
        | succ j => exact hr j p q (by simpa using hj) (by simpa using hq)
      · cases hp
    · cases hp

/-- How the machine finds the places. -/
theorem fields_mapM {fs : Array Field} (w : World) (h : ∀ f ∈ fs, (szT P f.type).isSome = true) :
    (fs.mapM fun f => do pure (f.offset, ← sizeOf f.type) : Sem (Array (Nat × Nat))).run P w = .ok (fs.map fun f => (f.offset, (szT P f.type).getD 0)) w := by
  rw [Array.mapM_eq_mapM_toList]
  have key : ∀ l : List Field, (∀ f ∈ l, (szT P f.type).isSome = true) → (l.mapM fun f => do pure (f.offset, ← sizeOf f.type) : Sem (List (Nat × Nat))).run P w = .ok (l.map fun f => (f.offset, (szT P f.type).getD 0)) w := by
    intro l
    induction l with
    | nil => intro _; rfl
    | cons f l ih =>
      intro hf
      obtain ⟨m, hm⟩ := Option.isSome_iff_exists.1 (hf f (by simp))
      have ih' := ih fun g hg => hf g (List.mem_cons_of_mem _ hg)
      rw [List.mapM_cons]
      simp only [Sem.run_bind, szT_run hm, Result.andThen_ok, Sem.run_pure, ih', List.map_cons, hm, Option.getD_some]
  have := key fs.toList (fun f hf => h f (by simpa using hf))
  simp only [Sem.run_map]
  rw [this]
  simp only [Result.andThen_ok, Result.ok.injEq, and_true]
  apply Array.ext'
  simp

/-- All the fields' types are known. -/
def fldsOk (P : Program) (t : Nat) : Bool :=
  match P.underlying t with
  | some (.struct fs) => fs.all fun f => (szT P f.type).isSome
  | some (.array _ e) => (szT P e).isSome
  | _ => false

theorem buildPV_run (h : SimX w0 F0 n s a w φ fp) {t : Nat} {parts : Array (Nat × Operand)} {q : PV} (hok : fldsOk P t = true) (hq : buildPV P s t parts.toList = some q) :
    ∃ v, (Instr.build t (parts.map fun (i, x) => (i, a.eval x))).run P w = .ok v w ∧ PVRep w φ (Stb w0 w fp) q v := by
  unfold buildPV at hq
  split at hq
  · rename_i z ps hz hps
    obtain ⟨out, hout, rfl⟩ := Option.map_eq_some_iff.1 hq
    obtain ⟨zv, hzr, hzc⟩ := zT_run hz w
    obtain ⟨hpl, hpr⟩ := partsPV_rep h parts.toList ps hps
    have hzero : ∀ (j : Nat) (x : PV), (z.map fun c => PV.t .fz (.v c))[j]? = some x → PVRep w φ (Stb w0 w fp) x (zv.cells.toList.getD j Go.undef) := by
      intro j x hx
      rw [List.getElem?_map] at hx
      obtain ⟨c, hc, rfl⟩ := Option.map_eq_some_iff.1 hx
      rw [hzc, List.getD_eq_getElem?_getD, hc]
      exact .t (.v _)
    let vals : List (Nat × Value) := parts.toList.map fun p => (p.1, a.eval p.2)
    let offs : List Nat := ps.map (·.1)
    have hfin : ∀ place : Nat → Option (Nat × Nat), (∀ p ∈ parts.toList, ∀ o, placeT P t p.1 = some o → place p.1 = some o) → ∃ cells, Instr.fill place zv.cells vals = some cells ∧ PVRep w φ (Stb w0 w fp) (.agg out) (.agg cells) := by
      intro place hplace
      have hbnd : ∀ (ps : List (Nat × List PV)) (cs out : List PV), fillPV cs ps = some out → ∀ p ∈ ps, p.1 + p.2.length ≤ cs.length := by
        intro ps
        induction ps with
        | nil => intro cs out _ p hp; simp at hp
        | cons q ps ih =>
          intro cs out hf p hp
          obtain ⟨o, us⟩ := q
          simp only [fillPV] at hf
          split at hf
          · rename_i hle
            rcases List.mem_cons.1 hp with rfl | hp
            · exact hle
            · have := ih _ _ hf p hp
              rwa [upd_length hle] at this
          · cases hf
      have hb := hbnd ps _ out hout
      obtain ⟨res, hres, hresl⟩ := fill_parts place vals zv.cells offs (by simp [offs, vals, hpl]) (fun j p o hp ho => by
        simp only [vals, List.getElem?_map] at hp
        obtain ⟨q, hq, rfl⟩ := Option.map_eq_some_iff.1 hp
        simp only [offs, List.getElem?_map] at ho
        obtain ⟨r, hr, rfl⟩ := Option.map_eq_some_iff.1 ho
        obtain ⟨h1, h2, h3⟩ := hpr j r q hr hq
        refine ⟨by rw [hplace q (List.mem_of_getElem? hq) _ h1, h2], ?_⟩
        have := hb r (List.mem_of_getElem? hr)
        have hzl : z.length = zv.cells.size := by rw [← hzc]; simp
        simp only [List.length_map] at this
        simp only
        omega)
      obtain ⟨hl1, hl2, hl3⟩ := fillPV_rep ps (vals.zip offs) (z.map fun c => PV.t .fz (.v c)) out zv.cells.toList (by rw [hzc]; simp) hzero (by simp [vals, offs, hpl]) (fun i p q hp hq => by
        rw [List.getElem?_zip_eq_some] at hq
        obtain ⟨hq1, hq2⟩ := hq
        simp only [vals, List.getElem?_map] at hq1
        obtain ⟨q', hq', e1⟩ := Option.map_eq_some_iff.1 hq1
        simp only [offs, List.getElem?_map, hp, Option.map_some, Option.some.injEq] at hq2
        obtain ⟨h1, h2, h3⟩ := hpr i p q' hp hq'
        rw [← e1]
        exact ⟨hq2, h2, h3⟩) hout
      rw [← hresl] at hl2 hl3
      simp only [Array.length_toList] at hl1 hl2
      refine ⟨res, hres, .agg res (by omega) fun j x hx => ?_⟩
      have := hl3 j x hx
      simpa [Array.getD_eq_getD_getElem?] using this
    have hpm : (parts.map fun (i, x) => (i, a.eval x)).toList = vals := by simp [vals]
    unfold fldsOk at hok
    split at hok
    · rename_i fs hfs
      have hall : ∀ f ∈ fs, (szT P f.type).isSome = true := fun f hf => by
        have := Array.all_eq_true'.1 hok f hf
        exact this
      obtain ⟨cells, hc, hr⟩ := hfin (fun i => (fs.map fun f => (f.offset, (szT P f.type).getD 0))[i]?) (fun p hp o ho => by
        simp only [placeT, hfs, fldT] at ho
        split at ho
        · rename_i fl hfl
          obtain ⟨m, hm, rfl⟩ := Option.map_eq_some_iff.1 ho
          simp [hfl, hm]
        · cases ho)
      refine ⟨.agg cells, ?_, hr⟩
      simp only [Instr.build, Sem.run_bind, hzr, Result.andThen_ok, run_underlying hfs]
      rw [fields_mapM (P := P) w hall]
      simp only [Result.andThen_ok, hpm]
      rw [hc]
      rfl
    · rename_i m e he
      cases hsz : szT P e with
      | none => simp [hsz] at hok
      | some sz =>
        obtain ⟨cells, hc, hr⟩ := hfin (fun i => some (i * sz, sz)) (fun p hp o ho => by
          simp only [placeT, he, hsz, Option.map_some] at ho
          exact ho)
        refine ⟨.agg cells, ?_, hr⟩
        simp only [Instr.build, Sem.run_bind, hzr, Result.andThen_ok, run_underlying he, szT_run hsz, hpm]
        rw [hc]
        rfl
    · cases hok
  · cases hq

end
end Go.PS
/- PS9: slice literals, make, append; forgetting a name's mentions. -/
namespace Go.PS
open Go Go.RowKit

theorem flat_get {α : Type} {sz : Nat} : ∀ {l : List (List α)}, (∀ e ∈ l, e.length = sz) → ∀ {i j : Nat}, j < sz → l.flatten[i * sz + j]? = (l[i]?).bind (·[j]?)
  | [], _, i, j, _ => by simp
  | e :: l, h, 0, j, hj => by
    have he := h e (by simp)
    simp only [List.flatten_cons, Nat.zero_mul, Nat.zero_add]
    rw [List.getElem?_append_left (by omega)]
    simp
  | e :: l, h, i + 1, j, hj => by
    have he := h e (by simp)
    simp only [List.flatten_cons]
    rw [List.getElem?_append_right (by rw [he, Nat.add_mul]; omega)]
    have : (i + 1) * sz + j - e.length = i * sz + j := by rw [he, Nat.add_mul]; omega
    rw [this, flat_get (fun e' h' => h e' (List.mem_cons_of_mem _ h')) hj]
    simp

theorem flat_length {α : Type} {sz : Nat} : ∀ {l : List (List α)}, (∀ e ∈ l, e.length = sz) → l.flatten.length = l.length * sz
  | [], _ => by simp
  | e :: l, h => by
    have he := h e (by simp)
    simp only [List.flatten_cons, List.length_append, List.length_cons, he]
    rw [flat_length (fun e' h' => h e' (List.mem_cons_of_mem _ h')), Nat.add_mul]
    omega

theorem fold_concat {α : Type} {sz : Nat} : ∀ (l : List (List α)) (k : Nat) (cs : List α), (∀ e ∈ l, e.length = sz) → (k + l.length) * sz ≤ cs.length →
    (l.zipIdx k).foldl (fun cs p => spl cs (p.2 * sz) p.1) cs = spl cs (k * sz) l.flatten
  | [], k, cs, _, _ => by simp [spl]
  | e :: l, k, cs, h, hle => by
    have he := h e (by simp)
    have hl := fun e' h' => h e' (List.mem_cons_of_mem _ h')
    have hfl := flat_length hl
    simp only [List.length_cons] at hle
    have h2 : (k + (l.length + 1)) * sz = k * sz + sz + l.length * sz := by rw [Nat.add_mul, Nat.add_mul]; omega
    simp only [List.zipIdx_cons, List.foldl_cons, List.flatten_cons]
    rw [fold_concat l (k + 1) _ hl (by
      rw [spl_length (by omega)]
      have : (k + 1 + l.length) * sz = (k + (l.length + 1)) * sz := by congr 1; omega
      omega)]
    have e1 : (k + 1) * sz = k * sz + e.length := by rw [Nat.add_mul, he]; omega
    rw [e1, spl_spl (by omega)]

/-- A slice literal's elements, one by one. -/
def rowPV (s : StL) (sz : Nat) : Nat → List (Nat × Operand) → Option (Kind × List (List TL))
  | _, [] => some (.fz, [])
  | j, (i, x) :: rest => if i = j then
      match cellsPV (ev s x), rowPV s sz (j + 1) rest with
      | some us, some (k', es) => match lowerL us with
        | some (k, e) => if e.length = sz then some (k.join k', e :: es) else none
        | none => none
      | _, _ => none
    else none

def elT (P : Program) (t : Nat) : Option Nat :=
  match P.underlying t with
  | some (.slice e) => some e
  | _ => none

def byT (P : Program) (t : Nat) : Option Nat := (P.info? t).map (·.bytes)

section
variable {P : Program} {w0 : Base} {F0 : Nat → Prop} {n : Nat} {s : StL} {a : Act} {w : World} {φ : Nat → Value} {fp : Nat → Nat → Prop}

theorem rowPV_rep (h : SimX w0 F0 n s a w φ fp) {sz : Nat} : ∀ (parts : List (Nat × Operand)) (j : Nat) (k : Kind) (xs : List (List TL)), rowPV s sz j parts = some (k, xs) →
    xs.length = parts.length ∧ (∀ e ∈ xs, e.length = sz) ∧ (∀ (i : Nat) (p : Nat × Operand), parts[i]? = some p → p.1 = j + i ∧ (a.eval p.2).cells.size = sz ∧ ∀ u ∈ (a.eval p.2).cells.toList, u.oneCell' = true) ∧
    ∀ (i q : Nat) (p : Nat × Operand) (e : List TL) (x : TL), parts[i]? = some p → xs[i]? = some e → e[q]? = some x → TRep w (Stb w0 w fp k) x ((a.eval p.2).cells.getD q Go.undef)
  | [], j, k, xs, hr => by
    simp only [rowPV, Option.some.injEq, Prod.mk.injEq] at hr
    obtain ⟨rfl, rfl⟩ := hr
    refine ⟨rfl, fun e he => ?_, fun i p hp => ?_, fun i q p e x hp => ?_⟩
    · simp at he
    · simp at hp
    · simp at hp
  | (i, x) :: rest, j, k, xs, hr => by
    simp only [rowPV] at hr
    split at hr
    · rename_i hij
      split at hr
      · rename_i us k' es hus hrest
        split at hr
        · rename_i k1 e1 hl1
          split at hr
          · rename_i hel
            simp only [Option.some.injEq, Prod.mk.injEq] at hr
            obtain ⟨rfl, rfl⟩ := hr
            obtain ⟨hs, hc⟩ := cellsPV_rep (h.ev x) hus
            obtain ⟨hle, hre, hone⟩ := lowerL_rep (us := fun j => (a.eval x).cells.getD j Go.undef) hc hl1
            obtain ⟨h1, h2, h3, h4⟩ := rowPV_rep h rest (j + 1) k' es hrest
            refine ⟨by simp [h1], ?_, ?_, ?_⟩
            · intro e he
              rcases List.mem_cons.1 he with rfl | he
              · exact hel
              · exact h2 e he
            · intro i' p hp
              cases i' with
              | zero =>
                simp at hp
                subst hp
                refine ⟨by simp [hij], by show (a.eval x).cells.size = sz; omega, fun u hu => ?_⟩
                obtain ⟨q, hq⟩ := List.getElem?_of_mem hu
                rw [Array.getElem?_toList] at hq
                have hlt : q < (a.eval x).cells.size := (Array.getElem?_eq_some_iff.1 hq).1
                have := hone q (by omega)
                simpa [Array.getD_eq_getD_getElem?, hq] using this
              | succ i' =>
                obtain ⟨h5, h6⟩ := h3 i' p (by simpa using hp)
                exact ⟨by omega, h6⟩
            · intro i' q p e x' hp he hx
              cases i' with
              | zero =>
                simp at hp he
                subst hp he
                exact (hre q x' hx).join k'
              | succ i' =>
                rw [Kind.join_comm]
                exact (h4 i' q p e x' (by simpa using hp) (by simpa using he) hx).join k1
          · cases hr
        · cases hr
      · cases hr
    · cases hr

/-- A row made in a new block. -/
theorem SimX.newRow (h : SimX w0 F0 n s a w φ fp) {d : Nat} (hd : s.free d = true) (hdn : d < n) (ty sz : Nat) (k : Kind) {cells : Array Value} {xs : List (List TL)} (cap : Nat) (hc0 : xs.length ≤ cap) (hc1 : cap ≤ maxLen)
    (hcs : cells.size = cap * sz) (hbd : xs.length ≤ 140737488355328) (hl : ∀ e ∈ xs, e.length = sz)
    (hr : ∀ (i j : Nat) (e : List TL) (x : TL), xs[i]? = some e → e[j]? = some x → TRep w (Stb w0 w fp k) x (cells.getD (i * sz + j) Go.undef)) :
    Sim w0 F0 n ⟨(d, .osl d) :: s.T, (d, .row ty sz k xs) :: s.M⟩ (a.put (some d) (.slice (some ⟨w.heap.size, 0, none⟩) xs.length cap)) (w.alloc (.cells cells ty)) := by
  have hlen : (cells.toList.take (xs.length * sz)).length = xs.length * sz := by
    have : xs.length * sz ≤ cap * sz := Nat.mul_le_mul_right _ hc0
    rw [List.length_take]; simp; omega
  obtain ⟨φ', fp', h', hne, hv⟩ := h.new hd (o := .cells cells ty) (r := .row ty sz k xs) (v := .slice (some ⟨w.heap.size, 0, none⟩) xs.length cap) (by
    intro φ' fp' hne hv hS hSc
    refine ⟨cells.toList.take (xs.length * sz), .inl ⟨⟨hlen, .inr ⟨w.heap.size, cap, cells, rfl, Nat.zero_le _, heap_alloc_new w _, hc0, hc1, hcs, rfl⟩⟩, fun g => by simp [Value.ownBlock, eq_comm]⟩, hbd, hl, fun i j e x he hx => ?_⟩
    have hi := (List.getElem?_eq_some_iff.1 he).1
    have hj := (List.getElem?_eq_some_iff.1 hx).1
    rw [hl e (List.mem_of_getElem? he)] at hj
    have hmul : (i + 1) * sz ≤ xs.length * sz := Nat.mul_le_mul_right _ hi
    rw [Nat.add_mul] at hmul
    rw [List.getD_eq_getElem?_getD, List.getElem?_take, if_pos (by omega)]
    have := (hr i j e x he hx).mono (hSc _) (hS _)
    simpa [Array.getD_eq_getD_getElem?] using this)
  exact ⟨φ', fp', h'.put hdn (.osl hv)⟩

theorem elT_und {t e : Nat} (h : elT P t = some e) : P.underlying t = some (.slice e) := by
  unfold elT at h
  split at h
  · cases h; assumption
  · cases h

theorem fill_row {sz len : Nat} (vals : List (Nat × Value)) (base : Array Value) (hbs : base.size = len * sz) (hvlen : vals.length = len) (hv3 : ∀ (i : Nat) (p : Nat × Value), vals[i]? = some p → p.1 = i ∧ p.2.cells.size = sz) :
    ∃ res, Instr.fill (fun i => some (i * sz, sz)) base vals = some res ∧ res.toList = (vals.map fun p => p.2.cells.toList).flatten ∧ res.size = len * sz := by
  obtain ⟨res, hres, hresl⟩ := fill_parts (fun i => some (i * sz, sz)) vals base ((List.range vals.length).map (· * sz)) (by simp) (fun j p o hp ho => by
    obtain ⟨h5, h6⟩ := hv3 j p hp
    have hj : j < vals.length := (List.getElem?_eq_some_iff.1 hp).1
    have ho' : o = j * sz := by
      rw [List.getElem?_map, List.getElem?_range hj] at ho
      simpa using ho.symm
    refine ⟨by simp [h5, h6, ho'], ?_⟩
    have hvl : vals.length = len := hvlen
    have hmul : (j + 1) * sz ≤ len * sz := Nat.mul_le_mul_right _ (by omega)
    rw [Nat.add_mul] at hmul
    rw [h6, hbs, ho']
    omega)
  have hflat : res.toList = (vals.map fun p => p.2.cells.toList).flatten := by
    rw [hresl]
    have e1 : ((vals.zip ((List.range vals.length).map (· * sz))).foldl (fun cs (p : (Nat × Value) × Nat) => spl cs p.2 p.1.2.cells.toList) base.toList) =
        ((vals.map fun p => p.2.cells.toList).zipIdx 0).foldl (fun cs p => spl cs (p.2 * sz) p.1) base.toList := by
      generalize base.toList = acc
      have key : ∀ (l : List (Nat × Value)) (k : Nat) (acc : List Value), (l.zip ((List.range' k l.length).map (· * sz))).foldl (fun cs (p : (Nat × Value) × Nat) => spl cs p.2 p.1.2.cells.toList) acc =
          ((l.map fun p => p.2.cells.toList).zipIdx k).foldl (fun cs p => spl cs (p.2 * sz) p.1) acc := by
        intro l
        induction l with
        | nil => intro k acc; rfl
        | cons p l ih =>
          intro k acc
          simp only [List.length_cons, List.range'_succ, List.map_cons, List.zip_cons_cons, List.foldl_cons, List.zipIdx_cons]
          exact ih (k + 1) _
      have := key vals 0 acc
      rwa [← List.range_eq_range'] at this
    have hall : ∀ e ∈ (vals.map fun p => p.2.cells.toList), e.length = sz := by
      intro e he'
      obtain ⟨p, hp, rfl⟩ := List.mem_map.1 he'
      obtain ⟨i, hi⟩ := List.getElem?_of_mem hp
      simpa using (hv3 i p hi).2
    have hvl : vals.length = len := hvlen
    rw [e1, fold_concat _ 0 _ hall (by simp [hbs, hvl])]
    have hfl := flat_length hall
    simp only [List.length_map, hvl] at hfl
    unfold spl
    rw [List.drop_of_length_le (by rw [hfl, Array.length_toList, hbs]; omega)]
    simp
  have hrl : res.size = len * sz := by
    have := congrArg List.length hflat
    rw [flat_length (sz := sz) (by
      intro e he'
      obtain ⟨p, hp, rfl⟩ := List.mem_map.1 he'
      obtain ⟨i, hi⟩ := List.getElem?_of_mem hp
      simpa using (hv3 i p hi).2)] at this
    simpa [hvlen] using this
  exact ⟨res, hres, hflat, hrl⟩
theorem buildSlice_run (h : SimX w0 F0 n s a w φ fp) {d t e len sz : Nat} {parts : Array (Nat × Operand)} {k : Kind} {xs : List (List TL)} {z : List Value} (hd : s.free d = true) (hdn : d < n)
    (he : elT P t = some e) (hsz : szT P e = some sz) (hz : zT P e = some z) (hzl : z.length = sz) (hlen : len = parts.size) (hbig : len * sz ≤ 16777216) (hpos : 0 < sz) (hq : rowPV s sz 0 parts.toList = some (k, xs)) :
    ∃ v w', (Instr.buildSlice t len (parts.map fun (i, x) => (i, a.eval x))).run P w = .ok v w' ∧ Sim w0 F0 n ⟨(d, .osl d) :: s.T, (d, .row e sz k xs) :: s.M⟩ (a.put (some d) v) w' := by
  obtain ⟨h1, h2, h3, h4⟩ := rowPV_rep h parts.toList 0 k xs hq
  obtain ⟨zv, hzr, hzc⟩ := zT_run hz w
  have hzs : zv.cells.size = sz := by have := congrArg List.length hzc; simpa [hzl] using this
  let vals : List (Nat × Value) := parts.toList.map fun p => (p.1, a.eval p.2)
  have hpm : (parts.map fun (i, x) => (i, a.eval x)).toList = vals := by simp [vals]
  have hxl : xs.length = len := by rw [h1, hlen]; simp
  let base : Array Value := (Array.range (len * sz)).map fun i => ((if len * sz = 0 then #[] else zv.cells))[i % (if len * sz = 0 then #[] else zv.cells).size]!
  have hbs : base.size = len * sz := by simp [base]
  have hv3 : ∀ (i : Nat) (p : Nat × Value), vals[i]? = some p → p.1 = i ∧ p.2.cells.size = sz := by
    intro i p hp
    simp only [vals, List.getElem?_map] at hp
    obtain ⟨q, hq', rfl⟩ := Option.map_eq_some_iff.1 hp
    obtain ⟨h5, h6, _⟩ := h3 i q hq'
    exact ⟨by simpa using h5, h6⟩
  obtain ⟨res, hres, hresl⟩ := fill_parts (fun i => some (i * sz, sz)) vals base ((List.range vals.length).map (· * sz)) (by simp) (fun j p o hp ho => by
    obtain ⟨h5, h6⟩ := hv3 j p hp
    have hj : j < vals.length := (List.getElem?_eq_some_iff.1 hp).1
    have ho' : o = j * sz := by
      rw [List.getElem?_map, List.getElem?_range hj] at ho
      simpa using ho.symm
    refine ⟨by simp [h5, h6, ho'], ?_⟩
    have hvl : vals.length = len := by simp [vals, hlen]
    have hmul : (j + 1) * sz ≤ len * sz := Nat.mul_le_mul_right _ (by omega)
    rw [Nat.add_mul] at hmul
    rw [h6, hbs, ho']
    omega)
  have hflat : res.toList = (vals.map fun p => p.2.cells.toList).flatten := by
    rw [hresl]
    have e1 : ((vals.zip ((List.range vals.length).map (· * sz))).foldl (fun cs (p : (Nat × Value) × Nat) => spl cs p.2 p.1.2.cells.toList) base.toList) =
        ((vals.map fun p => p.2.cells.toList).zipIdx 0).foldl (fun cs p => spl cs (p.2 * sz) p.1) base.toList := by
      generalize base.toList = acc
      have key : ∀ (l : List (Nat × Value)) (k : Nat) (acc : List Value), (l.zip ((List.range' k l.length).map (· * sz))).foldl (fun cs (p : (Nat × Value) × Nat) => spl cs p.2 p.1.2.cells.toList) acc =
          ((l.map fun p => p.2.cells.toList).zipIdx k).foldl (fun cs p => spl cs (p.2 * sz) p.1) acc := by
        intro l
        induction l with
        | nil => intro k acc; rfl
        | cons p l ih =>
          intro k acc
          simp only [List.length_cons, List.range'_succ, List.map_cons, List.zip_cons_cons, List.foldl_cons, List.zipIdx_cons]
          exact ih (k + 1) _
      have := key vals 0 acc
      rwa [← List.range_eq_range'] at this
    have hall : ∀ e ∈ (vals.map fun p => p.2.cells.toList), e.length = sz := by
      intro e he'
      obtain ⟨p, hp, rfl⟩ := List.mem_map.1 he'
      obtain ⟨i, hi⟩ := List.getElem?_of_mem hp
      simpa using (hv3 i p hi).2
    have hvl : vals.length = len := by simp [vals, hlen]
    rw [e1, fold_concat _ 0 _ hall (by simp [hbs, hvl])]
    have hfl := flat_length hall
    simp only [List.length_map, hvl] at hfl
    unfold spl
    rw [List.drop_of_length_le (by rw [hfl, Array.length_toList, hbs]; omega)]
    simp
  have hrl : res.size = len * sz := by
    have := congrArg List.length hflat
    rw [flat_length (sz := sz) (by
      intro e he'
      obtain ⟨p, hp, rfl⟩ := List.mem_map.1 he'
      obtain ⟨i, hi⟩ := List.getElem?_of_mem hp
      simpa using (hv3 i p hi).2)] at this
    simpa [vals, hlen] using this
  refine ⟨.slice (some ⟨w.heap.size, 0, none⟩) len len, w.alloc (.cells res e), ?_, ?_⟩
  · have hbig' : ¬ (len * sz > 2 ^ 24) := by omega
    by_cases hz0 : len * sz = 0
    · simp only [base, hz0, if_true] at hres
      simp only [Instr.buildSlice, Sem.run_bind, run_underlying (elT_und he), Result.andThen_ok, szT_run hsz, Sem.run_ite, if_neg hbig', hz0, if_true, Sem.run_pure, hpm, hres]
      simp [newRow]
    · simp only [base, if_neg hz0] at hres
      simp only [Instr.buildSlice, Sem.run_bind, run_underlying (elT_und he), Result.andThen_ok, szT_run hsz, Sem.run_ite, if_neg hbig', if_neg hz0, hzr, Sem.run_pure, hpm, hres]
      simp [newRow]
  · have hll : len ≤ len * sz := Nat.le_mul_of_pos_right _ hpos
    have hm : len ≤ maxLen := by simp only [maxLen]; omega
    have := h.newRow hd hdn e sz k (cells := res) (xs := xs) len (by omega) hm hrl (by omega) h2 (fun i j e' x he' hx => by
      have hi := (List.getElem?_eq_some_iff.1 he').1
      have hj := (List.getElem?_eq_some_iff.1 hx).1
      rw [h2 e' (List.mem_of_getElem? he')] at hj
      have hp : parts.toList[i]? = some (parts.toList[i]'(by omega)) := List.getElem?_eq_getElem (by omega)
      have hrep := h4 i j _ e' x hp he' hx
      have hg : res.getD (i * sz + j) Go.undef = (res.toList[i * sz + j]?).getD Go.undef := by simp [Array.getD_eq_getD_getElem?]
      rw [hg, hflat, flat_get (sz := sz) (by
        intro e he'
        obtain ⟨p, hp, rfl⟩ := List.mem_map.1 he'
        obtain ⟨i, hi⟩ := List.getElem?_of_mem hp
        simpa using (hv3 i p hi).2) hj]
      simp only [vals, List.map_map, List.getElem?_map, hp, Option.map_some, Option.bind_some, Function.comp]
      simpa [Array.getD_eq_getD_getElem?] using hrep)
    rw [hxl] at this
    exact this

/-- Parts that are closures or pointers. -/
def blkPV (s : StL) : Nat → List (Nat × Operand) → Option (List PV)
  | _, [] => some []
  | i, (j, o) :: l => if j = i then (match ev s o with
    | .clo f caps => (blkPV s (i + 1) l).map fun cs => .clo f caps :: cs
    | .ptr m off => (blkPV s (i + 1) l).map fun cs => .ptr m off :: cs
    | .t k (.v (.pointer none)) => (blkPV s (i + 1) l).map fun cs => .t k (.v (.pointer none)) :: cs
    | _ => none) else none
theorem blkPV_rep (h : SimX w0 F0 n s a w φ fp) : ∀ (parts : List (Nat × Operand)) (j : Nat) (cs : List PV), blkPV s j parts = some cs → cs.length = parts.length ∧
    (∀ (i : Nat) (p : Nat × Operand), parts[i]? = some p → p.1 = j + i ∧ (a.eval p.2).cells = #[a.eval p.2] ∧ cs[i]? = some (ev s p.2))
  | [], j, cs, hr => by
    simp only [blkPV, Option.some.injEq] at hr
    subst hr
    exact ⟨rfl, fun i p hp => by simp at hp⟩
  | (j', o) :: l, j, cs, hr => by
    simp only [blkPV] at hr
    split at hr
    · rename_i hj
      split at hr
      · rename_i f caps he
        obtain ⟨cs', hcs, rfl⟩ := Option.map_eq_some_iff.1 hr
        obtain ⟨h1, h2⟩ := blkPV_rep h l (j + 1) cs' hcs
        refine ⟨by simp [h1], fun i p hp => ?_⟩
        cases i with
        | zero =>
          simp at hp
          subst hp
          have hev := h.ev o
          rw [he] at hev
          refine ⟨by simpa using hj, ?_, by simp [he]⟩
          cases hev' : a.eval o with
          | func f' first caps' => rfl
          | _ => rw [hev'] at hev; cases hev
        | succ i =>
          simp only [List.getElem?_cons_succ] at hp ⊢
          obtain ⟨h3, h4, h5⟩ := h2 i p hp
          exact ⟨by omega, h4, h5⟩
      · rename_i m off he
        obtain ⟨cs', hcs, rfl⟩ := Option.map_eq_some_iff.1 hr
        obtain ⟨h1, h2⟩ := blkPV_rep h l (j + 1) cs' hcs
        refine ⟨by simp [h1], fun i p hp => ?_⟩
        cases i with
        | zero =>
          simp at hp
          subst hp
          have hev := h.ev o
          rw [he] at hev
          refine ⟨by simpa using hj, ?_, by simp [he]⟩
          cases hev' : a.eval o with
          | pointer p' => rfl
          | _ => rw [hev'] at hev; cases hev
        | succ i =>
          simp only [List.getElem?_cons_succ] at hp ⊢
          obtain ⟨h3, h4, h5⟩ := h2 i p hp
          exact ⟨by omega, h4, h5⟩
      · rename_i k he
        obtain ⟨cs', hcs, rfl⟩ := Option.map_eq_some_iff.1 hr
        obtain ⟨h1, h2⟩ := blkPV_rep h l (j + 1) cs' hcs
        refine ⟨by simp [h1], fun i p hp => ?_⟩
        cases i with
        | zero =>
          simp at hp
          subst hp
          have hev := h.ev o
          rw [he] at hev
          refine ⟨by simpa using hj, ?_, by simp [he]⟩
          have hv := hev.t_inv.v_inv
          rw [hv]
          rfl
        | succ i =>
          simp only [List.getElem?_cons_succ] at hp ⊢
          obtain ⟨h3, h4, h5⟩ := h2 i p hp
          exact ⟨by omega, h4, h5⟩
      · cases hr
    · cases hr
theorem buildBlk_run (h : SimX w0 F0 n s a w φ fp) {d t e len : Nat} {parts : Array (Nat × Operand)} {cs : List PV} {z : List Value} (hd : s.free d = true) (hdn : d < n)
    (he : elT P t = some e) (hsz : szT P e = some 1) (hz : zT P e = some z) (hzl : z.length = 1) (hlen : len = parts.size) (hbig : len * 1 ≤ 16777216) (hq : blkPV s 0 parts.toList = some cs) :
    ∃ v w', (Instr.buildSlice t len (parts.map fun (i, x) => (i, a.eval x))).run P w = .ok v w' ∧ Sim w0 F0 n ⟨(d, .mx d 5 len 0) :: s.T, (d, .blk e cs) :: s.M⟩ (a.put (some d) v) w' := by
  obtain ⟨h1, h2⟩ := blkPV_rep h parts.toList 0 cs hq
  obtain ⟨zv, hzr, hzc⟩ := zT_run hz w
  let vals : List (Nat × Value) := parts.toList.map fun p => (p.1, a.eval p.2)
  have hpm : (parts.map fun (i, x) => (i, a.eval x)).toList = vals := by simp [vals]
  have hvlen : vals.length = len := by simp [vals, hlen]
  let base : Array Value := (Array.range (len * 1)).map fun i => ((if len * 1 = 0 then #[] else zv.cells))[i % (if len * 1 = 0 then #[] else zv.cells).size]!
  have hbs : base.size = len * 1 := by simp [base]
  have hv3 : ∀ (i : Nat) (p : Nat × Value), vals[i]? = some p → p.1 = i ∧ p.2.cells.size = 1 := by
    intro i p hp
    simp only [vals, List.getElem?_map] at hp
    obtain ⟨q, hq', rfl⟩ := Option.map_eq_some_iff.1 hp
    obtain ⟨h5, h6, _⟩ := h2 i q hq'
    exact ⟨by simpa using h5, by simp [h6]⟩
  obtain ⟨res, hres, hflat, hrl⟩ := fill_row vals base hbs hvlen hv3
  have hflat2 : res.toList = parts.toList.map fun p => a.eval p.2 := by
    rw [hflat]
    have : vals.map (fun p => p.2.cells.toList) = (parts.toList.map fun p => a.eval p.2).map fun v => [v] := by
      apply List.ext_getElem?
      intro i
      simp only [vals, List.getElem?_map, List.map_map]
      cases hp : parts.toList[i]? with
      | none => rfl
      | some p =>
        obtain ⟨_, h6, _⟩ := h2 i p hp
        simp [h6]
    rw [this]
    generalize (parts.toList.map fun p => a.eval p.2) = L
    induction L with
    | nil => rfl
    | cons x L ih => simpa using ih
  refine ⟨.slice (some ⟨w.heap.size, 0, none⟩) len len, w.alloc (.cells res e), ?_, ?_⟩
  · have hbig' : ¬ (len * 1 > 2 ^ 24) := by omega
    by_cases hz0 : len * 1 = 0
    · simp only [base, hz0, if_true] at hres
      simp only [Instr.buildSlice, Sem.run_bind, run_underlying (elT_und he), Result.andThen_ok, szT_run hsz, Sem.run_ite, if_neg hbig', hz0, if_true, Sem.run_pure, hpm, hres]
      simp [newRow]
    · simp only [base, if_neg hz0] at hres
      simp only [Instr.buildSlice, Sem.run_bind, run_underlying (elT_und he), Result.andThen_ok, szT_run hsz, Sem.run_ite, if_neg hbig', if_neg hz0, hzr, Sem.run_pure, hpm, hres]
      simp [newRow]
  · have hcl : res.size = cs.length := by
      rw [hrl, h1, hlen]
      simp
    have hrep : ∀ (j : Nat) (x : PV), cs[j]? = some x → PVRep w φ (Stb w0 w fp) x (res.getD j Go.undef) := fun j x hx => by
      have hj := (List.getElem?_eq_some_iff.1 hx).1
      have hp : parts.toList[j]? = some (parts.toList[j]'(by omega)) := List.getElem?_eq_getElem (by omega)
      obtain ⟨_, _, h5⟩ := h2 j _ hp
      rw [hx] at h5
      cases h5
      have hg : res.getD j Go.undef = (res.toList[j]?).getD Go.undef := by simp [Array.getD_eq_getD_getElem?]
      rw [hg, hflat2, List.getElem?_map, hp]
      exact h.ev _
    have hmen : PV.menL d cs = false := by
      have : ∀ x ∈ cs, x.men d = false := fun x hx => by
        obtain ⟨j, hj⟩ := List.getElem?_of_mem hx
        have hjl := (List.getElem?_eq_some_iff.1 hj).1
        have hp : parts.toList[j]? = some (parts.toList[j]'(by omega)) := List.getElem?_eq_getElem (by omega)
        obtain ⟨_, _, h5⟩ := h2 j _ hp
        rw [hj] at h5
        cases h5
        exact ev_men hd _
      clear hq h1 h2 hcl hrep
      induction cs with
      | nil => rfl
      | cons x l ih =>
        simp only [PV.menL, Bool.or_eq_false_iff]
        exact ⟨this x (by simp), ih fun y hy => this y (by simp [hy])⟩
    obtain ⟨φ', fp', h', hne, hv⟩ := h.new hd (o := .cells res e) (r := .blk e cs) (v := .pointer (some ⟨w.heap.size, 0, none⟩)) (by
      intro φ' fp' hne hv hS hSc
      refine ⟨w.heap.size, res, rfl, fun _ => Iff.rfl, heap_alloc_new w _, hcl, fun j x hx => ((hrep j x hx).mono hSc hS).rename fun m hm' => hne m ?_⟩
      rintro rfl
      rw [PV.menL_get hx hmen] at hm'
      cases hm')
    exact ⟨φ', fp', h'.put hdn (.mx (by rw [hv]; rfl))⟩

end
end Go.PS
/- PS10: append, and forgetting a name's mentions. -/
namespace Go.PS
open Go Go.RowKit

def killT (m : Nat) (T : List (Nat × PV)) : List (Nat × PV) := T.map fun p => (p.1, if p.2.men m then .undef else p.2)
def Res.kill (m : Nat) : Res → Res
  | .blk ty cs => .blk ty (cs.map fun x => if x.men m then .undef else x)
  | .iter mn n seen => if mn == m then .junk else .iter mn n seen
  | r => r
def killM (m : Nat) (M : List (Nat × Res)) : List (Nat × Res) := M.map fun p => (p.1, p.2.kill m)
def StL.kill (s : StL) (m : Nat) : StL := ⟨killT m s.T, killM m s.M⟩

theorem getT_kill (m : Nat) : ∀ (T : List (Nat × PV)) (t : Nat), getT (killT m T) t = if (getT T t).men m then .undef else getT T t
  | [], t => by simp [killT, getT, PV.men]
  | (k, p) :: T, t => by
    have ih := getT_kill m T t
    by_cases e : k = t
    · simp [killT, getT, e]
    · simp only [killT] at ih
      simp [killT, getT, e, ih]

theorem getM_kill (m : Nat) : ∀ (M : List (Nat × Res)) (t : Nat), getM (killM m M) t = (getM M t).kill m
  | [], t => by simp [killM, getM, Res.kill]
  | (k, p) :: M, t => by
    simp only [killM, List.map_cons, getM]
    by_cases e : k = t
    · rw [if_pos e, if_pos e]
    · rw [if_neg e, if_neg e]; exact getM_kill m M t

theorem killT_men (m : Nat) : ∀ (T : List (Nat × PV)), (killT m T).all (fun p => !p.2.men m) = true
  | [] => rfl
  | (k, p) :: T => by
    simp only [killT, List.map_cons, List.all_cons, Bool.and_eq_true]
    refine ⟨?_, killT_men m T⟩
    cases h : p.men m <;> simp [h, PV.men]

theorem menL_kill (m : Nat) : ∀ (cs : List PV), PV.menL m (cs.map fun x => if x.men m then .undef else x) = false
  | [] => rfl
  | x :: cs => by
    simp only [List.map_cons, PV.menL, menL_kill m cs, Bool.or_false]
    cases h : x.men m <;> simp [h, PV.men]

theorem killM_men (m : Nat) : ∀ (M : List (Nat × Res)), (killM m M).all (fun p => !p.2.men m) = true
  | [] => rfl
  | (k, p) :: M => by
    simp only [killM, List.map_cons, List.all_cons, Bool.and_eq_true]
    refine ⟨?_, killM_men m M⟩
    cases p with
    | iter mn n seen =>
      simp only [Res.kill]
      cases h : mn == m <;> simp [Res.men, h]
    | _ => simp [Res.kill, Res.men, menL_kill]

section
variable {P : Program} {w0 : Base} {F0 : Nat → Prop} {n : Nat} {s : StL} {a : Act} {w : World} {φ : Nat → Value} {fp : Nat → Nat → Prop}

theorem SimX.kill (h : SimX w0 F0 n s a w φ fp) (m : Nat) : SimX w0 F0 n (s.kill m) a w φ fp := by
  refine ⟨fun q => ?_, h.disj, h.old, fun t => ?_, h.evo, h.size, h.dfr, h.fix⟩
  · show ResRep _ _ _ (getM (killM m s.M) q) _ _
    rw [getM_kill]
    have := h.res q
    revert this
    generalize getM s.M q = r
    intro this
    cases r with
    | dead => exact this
    | row => exact this
    | tab => exact this
    | mat => exact this
    | junk => trivial
    | iter mn n seen =>
      simp only [Res.kill]
      split
      · trivial
      · exact this
    | blk ty cs =>
      obtain ⟨g, vs, hv, hF, hh, hs, hr⟩ := this
      refine ⟨g, vs, hv, hF, hh, by simp [hs], fun j x hx => ?_⟩
      rw [List.getElem?_map] at hx
      obtain ⟨y, hy, rfl⟩ := Option.map_eq_some_iff.1 hx
      split
      · exact .undef _
      · exact hr j y hy
  · show PVRep _ _ _ (getT (killT m s.T) t) _
    rw [getT_kill]
    split
    · exact .undef _
    · exact h.tmp t

/-- A name's row is replaced: its old block may have been written, what is new may lie in a new block. -/
theorem SimX.regrow (h : SimX w0 F0 n s a w φ fp) {m : Nat} (hm6 : m < 1000000) (hT : s.T.all (fun p => !p.2.men m) = true) (hM : s.M.all (fun p => !p.2.men m) = true) {w' : World} {v' : Value} {r' : Res} {F' : Nat → Prop}
    (ho : w'.os = w.os) (ht : w'.tape = w.tape) (hout : w'.output = w.output) (hsz : w.heap.size ≤ w'.heap.size) (hblk : ∀ g, g < w.heap.size → ¬ fp m g → w'.heap[g]? = w.heap[g]?)
    (hF' : ∀ g, F' g → (fp m g ∨ w.heap.size ≤ g) ∧ g < w'.heap.size)
    (hr : ∀ φ' fp', (∀ k g, Stb w0 w fp k g → Stb w0 w' fp' k g) → (∀ k g, Stb w0 w fp k g → w'.heap[g]? = w.heap[g]?) → ResRep w' φ' (Stb w0 w' fp') r' v' F') :
    ∃ φ' fp', SimX w0 F0 n ⟨s.T, (m, r') :: s.M⟩ a w' φ' fp' ∧ φ' m = v' := by
  let φ' : Nat → Value := fun q => if q = m then v' else φ q
  let fp' : Nat → Nat → Prop := fun q g => if q = m then F' g else fp q g
  have hne : ∀ q, q ≠ m → φ' q = φ q := fun q hq => by simp [φ', hq]
  have hS : ∀ k g, Stb w0 w fp k g → Stb w0 w' fp' k g := by
    intro k g hg
    refine ⟨Nat.lt_of_lt_of_le hg.1 hsz, fun q hq => ?_, hg.2.2⟩
    simp only [fp'] at hq
    by_cases e : q = m
    · rw [if_pos e] at hq
      rcases (hF' g hq).1 with h1 | h1
      · exact hg.2.1 m h1
      · have := hg.1; omega
    · rw [if_neg e] at hq; exact hg.2.1 q hq
  have hSc : ∀ k g, Stb w0 w fp k g → w'.heap[g]? = w.heap[g]? := fun k g hg => hblk g hg.1 (hg.2.1 m)
  refine ⟨φ', fp', ⟨fun q => ?_, fun q q' g h1 h2 => ?_, fun q g hq => ?_, fun t => ?_, ?_, h.size, h.dfr, fun q hq => (hne q (by omega)).trans (h.fix q hq)⟩, by simp [φ']⟩
  · show ResRep _ _ _ (getM ((m, r') :: s.M) q) _ _
    simp only [getM]
    by_cases e : m = q
    · subst e
      rw [if_pos rfl]
      have e1 : fp' m = F' := by funext g; simp [fp']
      have e2 : φ' m = v' := by simp [φ']
      rw [e1, e2]
      exact hr φ' fp' hS hSc
    · rw [if_neg e]
      have e1 : fp' q = fp q := by funext g; simp [fp', Ne.symm e]
      rw [e1, hne q (Ne.symm e)]
      refine ((h.res q).keep (fun g hg => hblk g (h.old q g hg).1 fun hm => e (h.disj m q g hm hg)) hSc hS).rename fun q' hq' => hne q' ?_
      rintro rfl
      have := getM_men hM q
      rw [this] at hq'; cases hq'
  · simp only [fp'] at h1 h2
    by_cases e1 : q = m <;> by_cases e2 : q' = m
    · rw [e1, e2]
    · rw [if_pos e1] at h1; rw [if_neg e2] at h2
      rcases (hF' g h1).1 with h3 | h3
      · exact absurd (h.disj q' m g h2 h3) e2
      · have := (h.old q' g h2).1; omega
    · rw [if_neg e1] at h1; rw [if_pos e2] at h2
      rcases (hF' g h2).1 with h3 | h3
      · exact absurd (h.disj q m g h1 h3) e1
      · have := (h.old q g h1).1; omega
    · rw [if_neg e1] at h1; rw [if_neg e2] at h2
      exact h.disj q q' g h1 h2
  · simp only [fp'] at hq
    by_cases e1 : q = m
    · rw [if_pos e1] at hq
      obtain ⟨h3, h4⟩ := hF' g hq
      refine ⟨h4, ?_⟩
      rcases h3 with h3 | h3
      · exact (h.old m g h3).2
      · have := h.evo.size; exact .inr (by omega)
    · rw [if_neg e1] at hq
      have := h.old q g hq
      exact ⟨by omega, this.2⟩
  · refine ((h.tmp t).mono hSc hS).rename fun q' hq' => hne q' ?_
    rintro rfl
    have := getT_men hT t
    rw [this] at hq'; cases hq'
  · refine ⟨ho.trans h.evo.os, ht.trans h.evo.tape, hout.trans h.evo.output, Nat.le_trans h.evo.size hsz, fun g hg hF => ?_⟩
    refine (hblk g (Nat.lt_of_lt_of_le hg h.evo.size) fun hm => ?_).trans (h.evo.block g hg hF)
    rcases (h.old m g hm).2 with h1 | h1
    · exact hF h1
    · omega

/-- What is appended. -/
def srcPV (s : StL) (sz : Nat) : PV → Option (Kind × List (List TL))
  | .t k (.sl _ sz' ys) => if sz' = sz ∧ ys.all (fun e => e.all TL.leaf) = true then some (k, ys) else none
  | .t _ (.v (.slice none 0 0)) => some (.fz, [])
  | .osl m => match getM s.M m with
    | .row _ sz' k ys => if sz' = sz ∧ ys.all (fun e => e.all TL.leaf) = true then some (k, ys) else none
    | _ => none
  | .osv m sz'' lo len => match getM s.M m with
    | .row _ sz' k ys => if sz' = sz ∧ sz'' = sz ∧ 0 < len ∧ lo + len ≤ ys.length ∧ ys.all (fun e => e.all TL.leaf) = true then some (k, (ys.drop lo).take len) else none
    | _ => none
  | _ => none

theorem idx_div {sz p len : Nat} (hsz : 0 < sz) (h : p < len * sz) : p / sz < len ∧ p % sz < sz ∧ p = p / sz * sz + p % sz :=
  ⟨Nat.div_lt_of_lt_mul (by rw [Nat.mul_comm]; exact h), Nat.mod_lt _ hsz, by have := Nat.div_add_mod p sz; rw [Nat.mul_comm]; exact this.symm⟩

theorem cells_one {S : Nat → Prop} {sz : Nat} {ys : List (List TL)} {news : List Value} (hsz : 0 < sz) (hl : ∀ e ∈ ys, e.length = sz) (hleaf : ys.all (fun e => e.all TL.leaf) = true) (hn : news.length = ys.length * sz)
    (hr : ∀ (i j : Nat) (e : List TL) (x : TL), ys[i]? = some e → e[j]? = some x → TRep w S x (news.getD (i * sz + j) Go.undef)) : ∀ u ∈ news, u.oneCell' = true := by
  intro u hu
  obtain ⟨p, hp⟩ := List.getElem?_of_mem hu
  have hlt := (List.getElem?_eq_some_iff.1 hp).1
  obtain ⟨h1, h2, h3⟩ := idx_div (p := p) (len := ys.length) hsz (by omega)
  have he : ys[p / sz]? = some ys[p / sz] := List.getElem?_eq_getElem h1
  have hel := hl _ (List.mem_of_getElem? he)
  have hx : (ys[p / sz])[p % sz]? = some (ys[p / sz])[p % sz] := List.getElem?_eq_getElem (by omega)
  have := hr _ _ _ _ he hx
  rw [← h3, List.getD_eq_getElem?_getD, hp] at this
  refine this.leaf_one ?_
  have h5 := List.all_eq_true.1 hleaf _ (List.mem_of_getElem? he)
  exact List.all_eq_true.1 h5 _ (List.mem_of_getElem? hx)

theorem srcPV_rep (h : SimX w0 F0 n s a w φ fp) {sz : Nat} (hsz : 0 < sz) {p : PV} {u : Value} {k : Kind} {ys : List (List TL)} (hu : PVRep w φ (Stb w0 w fp) p u) (hq : srcPV s sz p = some (k, ys)) :
    ∃ ao c, u = .slice ao ys.length c ∧ ys.length ≤ 140737488355328 ∧ (∀ e ∈ ys, e.length = sz) ∧ (ys = [] ∨ ∃ A, ao = some A) ∧
      ∃ news : List Value, news.length = ys.length * sz ∧ (∀ A, ao = some A → ∀ j v, news[j]? = some v → w.cell? (A.add j) = some v) ∧ (∀ u ∈ news, u.oneCell' = true) ∧
        ∀ (i j : Nat) (e : List TL) (x : TL), ys[i]? = some e → e[j]? = some x → TRep w (Stb w0 w fp k) x (news.getD (i * sz + j) Go.undef) := by
  unfold srcPV at hq
  split at hq
  · rename_i k' f sz' ys'
    split at hq
    · rename_i hc
      obtain ⟨rfl, hleaf⟩ := hc
      cases hq
      cases hu.t_inv with
      | @sl _ _ _ ao cap g hcap ht hnn hnil hbd ha hlen hrep =>
      rcases ha with rfl | ⟨b, o, rfl, hb, hc⟩
      · refine ⟨ao, cap, rfl, hbd, hlen, .inl rfl, [], by simp, fun A _ j v hv => by simp at hv, fun u hu => by simp at hu, fun i j e x he => by simp at he⟩
      · have hnews : ∀ (i j : Nat) (e : List TL) (x : TL), ys[i]? = some e → e[j]? = some x → TRep w (Stb w0 w fp k) x (((List.range (ys.length * sz')).map fun p => g (p / sz') (p % sz')).getD (i * sz' + j) Go.undef) := by
          intro i j e x he hx
          have hi := (List.getElem?_eq_some_iff.1 he).1
          have hj := (List.getElem?_eq_some_iff.1 hx).1
          rw [hlen e (List.mem_of_getElem? he)] at hj
          have hmul : (i + 1) * sz' ≤ ys.length * sz' := Nat.mul_le_mul_right _ hi
          rw [Nat.add_mul] at hmul
          rw [List.getD_eq_getElem?_getD, List.getElem?_map, List.getElem?_range (by omega)]
          have e1 : (i * sz' + j) / sz' = i := by rw [Nat.mul_comm, Nat.mul_add_div hsz, Nat.div_eq_of_lt hj, Nat.add_zero]
          have e2 : (i * sz' + j) % sz' = j := by rw [Nat.mul_comm, Nat.mul_add_mod]; exact Nat.mod_eq_of_lt hj
          simp only [Option.map_some, Option.getD_some, e1, e2]
          exact hrep i j e x he hx
        refine ⟨_, cap, rfl, hbd, hlen, .inr ⟨_, rfl⟩, (List.range (ys.length * sz')).map fun p => g (p / sz') (p % sz'), by simp, fun A hA j v hv => ?_, cells_one hsz hlen hleaf (by simp) hnews, hnews⟩
        cases hA
        rw [List.getElem?_map] at hv
        obtain ⟨q, hq, rfl⟩ := Option.map_eq_some_iff.1 hv
        obtain ⟨hlt, rfl⟩ := List.getElem?_eq_some_iff.1 hq
        simp only [List.length_range] at hlt
        obtain ⟨h1, h2, h3⟩ := idx_div hsz hlt
        simp only [List.getElem_range]
        rw [addr_add]
        have := hc _ _ h1 h2
        rwa [← h3] at this
    · cases hq
  · cases hq
    have := hu.t_inv.v_inv
    exact ⟨none, 0, this, by simp, by simp, .inl rfl, [], by simp, fun A hA => (by cases hA), fun u hu => by simp at hu, fun i j e x he => by simp at he⟩
  · rename_i m
    split at hq
    · rename_i ty sz' k' ys' hM
      split at hq
      · rename_i hc
        obtain ⟨rfl, hleaf⟩ := hc
        cases hq
        cases hu with
        | @osl _ len cap ao hφ =>
        have hres := h.res m
        rw [hM] at hres
        obtain ⟨cells, hown, hbd, hlen, hrep⟩ := hres
        rw [hφ] at hown
        rcases hown with ⟨hown, hF⟩ | ⟨rfl, ⟨ao', hv⟩, _⟩
        · rcases hown.2 with ⟨hv, hz⟩ | ⟨g, cap', cur, hv, _⟩
          · cases hv
            have hy : ys = [] := List.eq_nil_of_length_eq_zero hz
            subst hy
            exact ⟨none, 0, rfl, by simp, by simp, .inl rfl, [], by simp, fun A hA => (by cases hA), fun u hu => by simp at hu, fun i j e x he => by simp at he⟩
          · cases hv
            refine ⟨_, _, rfl, hbd, hlen, .inr ⟨_, rfl⟩, cells, hown.1, fun A hA j v hv => ?_, cells_one hsz hlen hleaf hown.1 hrep, hrep⟩
            cases hA
            exact hown.cells (g := g) rfl j v hv
        · cases hv
          exact ⟨ao, 0, rfl, by simp, by simp, .inl rfl, [], by simp, fun A hA j v hv => by simp at hv, fun u hu => by simp at hu, fun i j e x he => by simp at he⟩
      · cases hq
    · cases hq
  · rename_i m sz'' lo len
    split at hq
    · rename_i ty sz' k' ys' hM
      split at hq
      · rename_i hc
        obtain ⟨rfl, rfl, hlen0, hle, hleaf⟩ := hc
        cases hq
        cases hu with
        | @osv _ _ _ _ g l c cap hφ hcap =>
        have hres := h.res m
        rw [hM] at hres
        obtain ⟨cells, hown, hbd, hlen, hrep⟩ := hres
        rw [hφ] at hown
        obtain ⟨hown, hF⟩ := hown.resolve_right (by rintro ⟨rfl, _⟩; simp at hle; omega)
        have hl : ((ys'.drop lo).take len).length = len := by rw [List.length_take, List.length_drop]; omega
        have hmem : ∀ e ∈ (ys'.drop lo).take len, e ∈ ys' := fun e he => List.mem_of_mem_drop (List.mem_of_mem_take he)
        have hget : ∀ i e, ((ys'.drop lo).take len)[i]? = some e → ys'[lo + i]? = some e := by
          intro i e hi
          rw [List.getElem?_take] at hi
          split at hi
          · rwa [List.getElem?_drop] at hi
          · cases hi
        have hleaf2 : ((ys'.drop lo).take len).all (fun e => e.all TL.leaf) = true := by
          rw [List.all_eq_true] at hleaf ⊢
          exact fun e he => hleaf e (hmem e he)
        have hmul : (lo + len) * sz'' ≤ ys'.length * sz'' := Nat.mul_le_mul_right _ hle
        rw [Nat.add_mul] at hmul
        have hnl : ((cells.drop (lo * sz'')).take (len * sz'')).length = ((ys'.drop lo).take len).length * sz'' := by
          rw [hl, List.length_take, List.length_drop, hown.1]
          omega
        have hrep2 : ∀ (i j : Nat) (e : List TL) (x : TL), ((ys'.drop lo).take len)[i]? = some e → e[j]? = some x → TRep w (Stb w0 w fp k) x (((cells.drop (lo * sz'')).take (len * sz'')).getD (i * sz'' + j) Go.undef) := by
          intro i j e x he hx
          have hi := (List.getElem?_eq_some_iff.1 he).1
          rw [hl] at hi
          have hj := (List.getElem?_eq_some_iff.1 hx).1
          rw [hlen e (hmem e (List.mem_of_getElem? he))] at hj
          have h1 := hrep (lo + i) j e x (hget i e he) hx
          have hmul2 : (i + 1) * sz'' ≤ len * sz'' := Nat.mul_le_mul_right _ hi
          rw [Nat.add_mul] at hmul2
          rw [List.getD_eq_getElem?_getD, List.getElem?_take, if_pos (by omega), List.getElem?_drop]
          rw [List.getD_eq_getElem?_getD, Nat.add_mul, Nat.add_assoc] at h1
          exact h1
        refine ⟨_, _, by rw [hl], by rw [hl]; omega, fun e he => hlen e (hmem e he), .inr ⟨_, rfl⟩, (cells.drop (lo * sz'')).take (len * sz''), hnl, fun A hA j v hv => ?_, cells_one hsz (fun e he => hlen e (hmem e he)) hleaf2 hnl hrep2, hrep2⟩
        cases hA
        rw [List.getElem?_take] at hv
        split at hv
        · rw [List.getElem?_drop] at hv
          have := hown.cells (g := g) rfl (lo * sz'' + j) v hv
          rw [addr_add] at this ⊢
          simpa using this
        · cases hv
      · cases hq
    · cases hq
  · cases hq

/-- Nothing is appended. -/
theorem run_append_zero {t e : Nat} (ht : P.underlying t = some (.slice e)) {sz : Nat} (hs : szT P e = some sz) (ty : Nat) (b : Option Addr) (len cap : Nat) (hle : len ≤ cap) (b' : Option Addr) (c : Nat) (w : World) :
    (Builtin.append_ #[t, t] ty #[.slice b len cap, .slice b' 0 c]).run P w = .ok (.slice b len cap) w := by
  have hf : (Builtin.firstCells sz 0 (.slice b' 0 c)).run P w = .ok #[] w := by
    cases b' <;> simp [Builtin.firstCells, loadCells, loadCellsFrom]
  cases b <;> simp [Builtin.append_, run_underlying ht, szT_run hs, Builtin.lenOf, hle, hf, storeCells]

/-- An append to a row of our own. -/
theorem append_own {t e sz by_ : Nat} {z : Value} (ht : P.underlying t = some (.slice e)) (i : TypeInfo) (hi : P.info? e = some i) (hz : i.zero = some z) (hsize : i.size = sz) (hby : i.bytes = by_) (hzs : z.cells.size = sz) (hsz : 0 < sz) (hbp : 0 < by_) (ty : Nat)
    {v : Value} {nx : Nat} {cells : List Value} (hv : w.ownsRow 0 e sz v nx cells)
    {ao : Option Addr} {m c : Nat} {news : List Value} (hao : m = 0 ∨ ∃ A, ao = some A) (hl : news.length = m * sz) (hn : ∀ A, ao = some A → ∀ j u, news[j]? = some u → w.cell? (A.add j) = some u) (h1 : ∀ u ∈ news, u.oneCell' = true)
    (hbytes : (nx + m) * by_ ≤ 140737488355328) :
    ∃ v' w', (Builtin.append_ #[t, t] ty #[v, .slice ao m c]).run P w = .ok v' w' ∧ w'.ownsRow 0 e sz v' (nx + m) (cells ++ news) ∧ w.grownBy w' v.ownBlock ∧ (v'.ownBlock = v.ownBlock ∨ v'.ownBlock = some w.heap.size) := by
  have hlen : nx + m ≤ 140737488355328 := Nat.le_trans (Nat.le_mul_of_pos_right _ hbp) hbytes
  have hszT : szT P e = some sz := by simp [szT, hi, hsize]
  rcases Nat.eq_zero_or_pos m with rfl | hm
  · have hnews : news = [] := List.eq_nil_of_length_eq_zero (by simpa using hl)
    subst hnews
    obtain ⟨b, cap, rfl, hle⟩ : ∃ b cap, v = .slice b nx cap ∧ nx ≤ cap := by
      rcases hv.2 with ⟨rfl, h0⟩ | ⟨g, cap, cur, rfl, _, _, hc, _⟩
      · exact ⟨none, 0, by rw [h0], by omega⟩
      · exact ⟨_, cap, rfl, hc⟩
    exact ⟨_, w, run_append_zero ht hszT ty b nx cap hle ao c w, by simpa using hv, ⟨rfl, rfl, rfl, Nat.le_refl _, fun _ _ _ => rfl⟩, .inl rfl⟩
  · obtain ⟨A, rfl⟩ := hao.resolve_left (by omega)
    obtain ⟨v', w', hr, h2, h3, _, h5⟩ := run_append_own_at (P := P) w 0 t ty e i z sz by_ ht hi hz hsize hby hzs hsz v nx cells hv A m c news hl (hn A rfl) h1 (by simp only [maxLen]; omega) hbytes (Nat.zero_le _)
    exact ⟨v', w', hr, h2, h3, h5⟩

/-- An append to a slice without room. -/
theorem append_grow {t e sz by_ : Nat} {z : Value} (ht : P.underlying t = some (.slice e)) (i : TypeInfo) (hi : P.info? e = some i) (hz : i.zero = some z) (hsize : i.size = sz) (hby : i.bytes = by_) (hzs : z.cells.size = sz) (hsz : 0 < sz) (hbp : 0 < by_) (ty : Nat)
    {bo : Option Addr} {nx : Nat} {cells : List Value} (hbo : nx = 0 ∨ ∃ B, bo = some B) (hcl : cells.length = nx * sz) (hcells : ∀ B, bo = some B → ∀ j u, cells[j]? = some u → w.cell? (B.add j) = some u)
    {A : Addr} {m c : Nat} {news : List Value} (hm : 0 < m) (hl : news.length = m * sz) (hn : ∀ j u, news[j]? = some u → w.cell? (A.add j) = some u)
    (hbytes : (nx + m) * by_ ≤ 140737488355328) :
    ∃ v' w', (Builtin.append_ #[t, t] ty #[.slice bo nx nx, .slice (some A) m c]).run P w = .ok v' w' ∧ w'.ownsRow 0 e sz v' (nx + m) (cells ++ news) ∧ w.grownBy w' none ∧ v'.ownBlock = some w.heap.size := by
  subst hsize
  subst hby
  have hlen : nx + m ≤ 140737488355328 := Nat.le_trans (Nat.le_mul_of_pos_right _ hbp) hbytes
  have hge := grownCap_ge w (nx + m) nx e
  have hcm : grownCap w (nx + m) nx e ≤ maxLen := grownCap_le_maxLen w (nx + m) nx e (by simp only [maxLen]; omega)
  have fin : (w.drew.alloc (.cells (cells.toArray ++ news.toArray ++ Builtin.zeroCells z.cells (grownCap w (nx + m) nx e - (nx + m))) e)).ownsRow 0 e i.size
      (.slice (some ⟨w.heap.size, 0, none⟩) (nx + m) (grownCap w (nx + m) nx e)) (nx + m) (cells ++ news) := by
    have hlen' : (cells ++ news).length = (nx + m) * i.size := by rw [List.length_append, hcl, hl, Nat.add_mul]
    refine ⟨hlen', .inr ⟨w.heap.size, _, _, rfl, Nat.zero_le _, heap_alloc_new w.drew _, hge, hcm, ?_, ?_⟩⟩
    · simp only [Array.size_append, List.size_toArray, size_zeroCells, hzs, hl, hcl, ← Nat.add_mul]
      congr 1
      omega
    · simp only [Array.toList_append, List.append_assoc]
      rw [← List.append_assoc, ← hlen']
      exact List.take_left
  have hgr : w.grownBy (w.drew.alloc (.cells (cells.toArray ++ news.toArray ++ Builtin.zeroCells z.cells (grownCap w (nx + m) nx e - (nx + m))) e)) none :=
    ⟨rfl, rfl, rfl, by simp, fun k hk _ => Below.heap_alloc w.drew _ k hk⟩
  cases bo with
  | some B =>
    have hr := run_append_grow (P := P) w t ty e i z ht hi hz B nx nx cells hcl (hcells B rfl) A m c news hl hn (by omega) (by omega) (growslice_fits (by omega) hbytes)
    exact ⟨_, _, hr, fin, hgr, rfl⟩
  | none =>
    obtain rfl : nx = 0 := hbo.resolve_right (by simp)
    have hc : cells = [] := List.eq_nil_of_length_eq_zero (by simpa using hcl)
    subst hc
    have hr := run_append_nil (P := P) w t ty e i z ht hi hz A m c news hl hn hm (by omega) (by simp only [Nat.zero_add] at hbytes; omega)
    simp only [Nat.zero_add, List.nil_append, Array.empty_append] at fin hgr ⊢
    exact ⟨_, _, hr, fin, hgr, rfl⟩

end
end Go.PS
/- PS11: one operation's step of a state, and that the machine takes it. -/
