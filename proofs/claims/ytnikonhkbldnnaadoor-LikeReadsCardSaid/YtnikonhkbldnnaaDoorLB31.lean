import Derived.Test.YtnikonhkbldnnaaDoorLB29
/- LB31: converted, Of. -/
set_option linter.unusedVariables false
set_option linter.unusedSimpArgs false
set_option maxRecDepth 20000
namespace Go.Proofs.YtnikonhkbldnnaaDoor
open Go Go.PS
attribute [-simp] isKeyK List.map_take
/-- What is converted of a formula, and how many nodes are left then. -/
def convL (w : Int → FT → FT × Int) : Int → Nat → List FT → List FT × Int
  | n, _, [] => ([], n)
  | n, j, k :: l => if n < 1 ∨ 3 < j then ([], n) else ((w n k).1 :: (convL w (w n k).2 (j + 1) l).1, (convL w (w n k).2 (j + 1) l).2)
def convF : Nat → Int → FT → FT × Int
  | 0, n, .mk o a b _ => (.mk o a b [], n - 1)
  | left + 1, n, .mk o a b ks => (.mk o a b (convL (convF left) (n - 1) 0 ks).1, (convL (convF left) (n - 1) 0 ks).2)
theorem convL_bd {w : Int → FT → FT × Int} (hw : ∀ n k, 1 ≤ n → n ≤ 2010 → 0 ≤ (w n k).2 ∧ (w n k).2 ≤ n) : ∀ (l : List FT) (n : Int) (j : Nat), 0 ≤ n → n ≤ 2010 → 0 ≤ (convL w n j l).2 ∧ (convL w n j l).2 ≤ n
  | [], n, j, h0, h1 => by rw [convL]; exact ⟨h0, Int.le_refl _⟩
  | k :: l, n, j, h0, h1 => by
    rw [convL]
    split
    · exact ⟨h0, Int.le_refl _⟩
    · have h2 := hw n k (by omega) h1
      have h3 := convL_bd hw l (w n k).2 (j + 1) h2.1 (by omega)
      exact ⟨h3.1, by simp only; omega⟩
theorem convF_bd : ∀ (left : Nat) (n : Int) (f : FT), 1 ≤ n → n ≤ 2010 → 0 ≤ (convF left n f).2 ∧ (convF left n f).2 ≤ n
  | 0, n, .mk o a b ks, h0, h1 => by rw [convF]; simp only; omega
  | left + 1, n, .mk o a b ks, h0, h1 => by
    rw [convF]
    have := convL_bd (convF_bd left) ks (n - 1) 0 (by omega) (by omega)
    simp only
    omega
theorem convL_len (w : Int → FT → FT × Int) : ∀ (l : List FT) (n : Int) (j : Nat), (convL w n j l).1.length ≤ 4 - j
  | [], n, j => by simp [convL]
  | k :: l, n, j => by
    rw [convL]
    split
    · simp
    · have := convL_len w l (w n k).2 (j + 1)
      simp only [List.length_cons]
      omega
theorem convL_drop (w : Int → FT → FT × Int) (ks : List FT) (i : Nat) (h : i < ks.length) (n : Int) : convL w n i (ks.drop i) = if n < 1 ∨ 3 < i then ([], n) else ((w n ks[i]).1 :: (convL w (w n ks[i]).2 (i + 1) (ks.drop (i + 1))).1, (convL w (w n ks[i]).2 (i + 1) (ks.drop (i + 1))).2) := by
  rw [List.drop_eq_getElem_cons h, convL]
/-- What is converted of the formulas below. -/
def cvK : Nat → Int → List FT → List FT × Int
  | 0, n, _ => ([], n)
  | left + 1, n, ks => convL (convF left) n 0 ks
theorem convF_mk (left : Nat) (n : Int) (o : ByteArray) (a b : Int) (ks : List FT) : convF left n (.mk o a b ks) = (.mk o a b (cvK left (n - 1) ks).1, (cvK left (n - 1) ks).2) := by
  cases left <;> rfl
def ftK : FT → List FT
  | .mk _ _ _ ks => ks
/-- What Of makes of a formula. -/
def ofF (f : FT) : FT := (convF 43 2010 f).1
end Go.Proofs.YtnikonhkbldnnaaDoor
