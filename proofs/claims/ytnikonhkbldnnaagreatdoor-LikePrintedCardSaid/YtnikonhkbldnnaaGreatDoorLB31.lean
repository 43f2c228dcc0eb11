import Derived.Test.YtnikonhkbldnnaaGreatDoorLB29
/- LB31: converted, Of. -/
set_option linter.unusedVariables false
set_option linter.unusedSimpArgs false
set_option maxRecDepth 20000
namespace Go.Proofs.YtnikonhkbldnnaaGreatDoor
open Go Go.PS
attribute [-simp] isKeyK List.map_take
def cv2D : List (List Nat) := [[], [0], [], [2], [], [4], [0, 1, 2, 3, 4, 5], [], [7], [], [9], [], [11], [7, 8, 9, 10, 11, 12], [], [], [0, 1, 2, 3, 4, 5, 6, 14, 15], [0, 1, 2, 3, 4, 5, 6, 7, 8, 9, 10, 11, 12, 13, 14, 15, 16]]
def cv2T : List Nat := [0, 1, 2, 3, 4, 5, 6, 7, 8, 9, 10, 11, 12, 13, 14, 15, 16, 17]
def cv2P : List (List (Option Bool)) := [[some false, some false, none, none, none, none, some false, none, none, none, none, none, none, none, none, none, some false, some false], [some true, some false, none, none, none, none, some false, none, none, none, none, none, none, none, none, none, some false, some false], [none, none, some false, some false, none, none, some false, none, none, none, none, none, none, none, none, none, some false, some false], [none, none, some true, some false, none, none, some false, none, none, none, none, none, none, none, none, none, some false, some false], [none, none, none, none, some false, some false, some false, none, none, none, none, none, none, none, none, none, some false, some false], [none, none, none, none, some true, some false, some false, none, none, none, none, none, none, none, none, none, some false, some false], [some true, some true, some true, some true, some true, some true, some false, none, none, none, none, none, none, none, none, none, some false, some false], [none, none, none, none, none, none, none, some false, some false, none, none, none, none, some false, none, none, none, some false], [none, none, none, none, none, none, none, some true, some false, none, none, none, none, some false, none, none, none, some false], [none, none, none, none, none, none, none, none, none, some false, some false, none, none, some false, none, none, none, some false], [none, none, none, none, none, none, none, none, none, some true, some false, none, none, some false, none, none, none, some false], [none, none, none, none, none, none, none, none, none, none, none, some false, some false, some false, none, none, none, some false], [none, none, none, none, none, none, none, none, none, none, none, some true, some false, some false, none, none, none, some false], [none, none, none, none, none, none, none, some true, some true, some true, some true, some true, some true, some false, none, none, none, some false], [none, none, none, none, none, none, none, none, none, none, none, none, none, none, some false, none, some false, some false], [none, none, none, none, none, none, none, none, none, none, none, none, none, none, none, some false, some false, some false], [some true, some true, some true, some true, some true, some true, some true, none, none, none, none, none, none, none, some true, some true, some false, some false], [some true, some true, some true, some true, some true, some true, some true, some true, some true, some true, some true, some true, some true, some true, some true, some true, some true, some false]]
def cv8D : List (List Nat) := [[], [0], [], [2], [0, 1, 2, 3], [], [5], [], [7], [0, 1, 2, 3, 4, 5, 6, 7, 8], [0, 1, 2, 3, 4], [0, 1, 2, 3, 4, 5, 6, 7, 8, 9, 10], [0, 1, 2, 3, 4, 5, 6, 7, 8, 9, 10, 11], [0, 1, 2, 3, 4, 5, 6, 7, 8, 9, 10, 11, 12]]
def cv8T : List Nat := [0, 1, 2, 3, 4, 5, 6, 7, 8, 9, 10, 11, 12, 13]
def cv8P : List (List (Option Bool)) := [[some false, some false, none, none, some false, none, none, none, none, some false, some false, some false, some false, some false], [some true, some false, none, none, some false, none, none, none, none, some false, some false, some false, some false, some false], [none, none, some false, some false, some false, none, none, none, none, some false, some false, some false, some false, some false], [none, none, some true, some false, some false, none, none, none, none, some false, some false, some false, some false, some false], [some true, some true, some true, some true, some false, none, none, none, none, some false, some false, some false, some false, some false], [none, none, none, none, none, some false, some false, none, none, some false, none, some false, some false, some false], [none, none, none, none, none, some true, some false, none, none, some false, none, some false, some false, some false], [none, none, none, none, none, none, none, some false, some false, some false, none, some false, some false, some false], [none, none, none, none, none, none, none, some true, some false, some false, none, some false, some false, some false], [some true, some true, some true, some true, some true, some true, some true, some true, some true, some false, none, some false, some false, some false], [some true, some true, some true, some true, some true, none, none, none, none, none, some false, some false, some false, some false], [some true, some true, some true, some true, some true, some true, some true, some true, some true, some true, some true, some false, some false, some false], [some true, some true, some true, some true, some true, some true, some true, some true, some true, some true, some true, some true, some false, some false], [some true, some true, some true, some true, some true, some true, some true, some true, some true, some true, some true, some true, some true, some false]]
def cv10D : List (List Nat) := [[], [], [0], [0, 1, 2]]
def cv10T : List Nat := [0, 1, 2, 3]
def cv10P : List (List (Option Bool)) := [[some false, none, some false, some false], [none, some false, none, some false], [some true, none, some false, some false], [some true, some true, some true, some false]]
/-- What is converted of a formula, and how many nodes are left then. -/
def convL (w : Int → FT → FT × Int) : Int → Nat → List FT → List FT × Int
  | n, _, [] => ([], n)
  | n, j, k :: l => if n < 1 ∨ 3 < j then ([], n) else ((w n k).1 :: (convL w (w n k).2 (j + 1) l).1, (convL w (w n k).2 (j + 1) l).2)
def convF : Nat → Int → FT → FT × Int
  | 0, n, .mk o a b _ => (.mk o a b [], n - 1)
  | left + 1, n, .mk o a b ks => (.mk o a b (convL (convF left) (n - 1) 0 ks).1, (convL (convF left) (n - 1) 0 ks).2)
theorem convL_bd {w : Int → FT → FT × Int} (hw : ∀ n k, 1 ≤ n → n ≤ 2010 → 0 ≤ (w n k).2 ∧ (w n k).2 ≤ n) : ∀ (l : List FT) (n : Int) (j : Nat), 0 ≤ n → n ≤ 2010 → 0 ≤ (convL w n j l).2 ∧ (convL w n j l).2 ≤ n
  | [], n, j, h0, h1 => by rw [convL]; exact ⟨h0, Int.le_refl _⟩
  | k :: l, n, j, h0, h1 => by
    rw [convL]
    split
    · exact ⟨h0, Int.le_refl _⟩
    · have h2 := hw n k (by omega) h1
      have h3 := convL_bd hw l (w n k).2 (j + 1) h2.1 (by omega)
      exact ⟨h3.1, by simp only; omega⟩
theorem convF_bd : ∀ (left : Nat) (n : Int) (f : FT), 1 ≤ n → n ≤ 2010 → 0 ≤ (convF left n f).2 ∧ (convF left n f).2 ≤ n
  | 0, n, .mk o a b ks, h0, h1 => by rw [convF]; simp only; omega
  | left + 1, n, .mk o a b ks, h0, h1 => by
    rw [convF]
    have := convL_bd (convF_bd left) ks (n - 1) 0 (by omega) (by omega)
    simp only
    omega
theorem convL_len (w : Int → FT → FT × Int) : ∀ (l : List FT) (n : Int) (j : Nat), (convL w n j l).1.length ≤ 4 - j
  | [], n, j => by simp [convL]
  | k :: l, n, j => by
    rw [convL]
    split
    · simp
    · have := convL_len w l (w n k).2 (j + 1)
      simp only [List.length_cons]
      omega
theorem convL_drop (w : Int → FT → FT × Int) (ks : List FT) (i : Nat) (h : i < ks.length) (n : Int) : convL w n i (ks.drop i) = if n < 1 ∨ 3 < i then ([], n) else ((w n ks[i]).1 :: (convL w (w n ks[i]).2 (i + 1) (ks.drop (i + 1))).1, (convL w (w n ks[i]).2 (i + 1) (ks.drop (i + 1))).2) := by
  rw [List.drop_eq_getElem_cons h, convL]
/-- What is converted of the formulas below. -/
def cvK : Nat → Int → List FT → List FT × Int
  | 0, n, _ => ([], n)
  | left + 1, n, ks => convL (convF left) n 0 ks
theorem convF_mk (left : Nat) (n : Int) (o : ByteArray) (a b : Int) (ks : List FT) : convF left n (.mk o a b ks) = (.mk o a b (cvK left (n - 1) ks).1, (cvK left (n - 1) ks).2) := by
  cases left <;> rfl
/-- What converted hands back. -/
def cvR (z : FT) : PV := match z with
  | .mk o a b _ => .tup [.agg [.t .fz (.v (.string o)), pI a, pI b, .osl 101], .agg [.t .fz (.v (.string o)), pI a, pI b, .osl 102]]
def ftK : FT → List FT
  | .mk _ _ _ ks => ks
def cvM (z : FT) (n : Int) : List (Nat × Res) := [(1000000, .blk 3 [pI n]), (101, .row 37 4 .fz ((ftK z).map ftC)), (102, .row 44 4 .fz ((ftK z).map ftC))]
set_option maxHeartbeats 4000000 in
theorem converted_spec : ∀ (left : Nat), left ≤ 100 → ∀ (n : Int) (o : ByteArray) (a b : Int) (ks : List FT), 1 ≤ n → n ≤ 2010 →
    ECall Tryz.prog 54 [.agg [.t .fz (.v (.string o)), pI a, pI b, .t .ro (.sl .any 4 (ks.map ftC))], pI left, .ptr 1000000 0] [(1000000, .blk 3 [pI n])] (cvR (.mk o a b (cvK left (n - 1) ks).1)) (cvM (.mk o a b (cvK left (n - 1) ks).1) (cvK left (n - 1) ks).2) := by
  intro left
  induction left using Nat.strongRecOn with
  | ind left ih =>
  intro hl n o a b ks h0 h1
  have hw := wr (n := n - 1) (by omega) (by omega)
  simp only [cvR, cvM, ftK]
  refine ecall_wp Tryz.func54 rfl (by kernel_rfl) ?_
  simp -dsimp [hw]
  refine wk_dagS (fun bs => ⟨[(19, cnd (bs.getD 0 false) (.ptr 3 0)), (20, cnd (bs.getD 1 false) (.t .fz (.v (.string o)))), (21, cnd (bs.getD 2 false) (.ptr 3 1)), (22, cnd (bs.getD 3 false) (pI a)), (23, cnd (bs.getD 4 false) (.ptr 3 2)), (24, cnd (bs.getD 5 false) (pI b)), (25, cnd (bs.getD 6 false) (.agg [.t .fz (.v (.string o)), pI a, pI b, .t .fz (.v (.slice none 0 0))])), (26, cnd (bs.getD 7 false) (.ptr 3 0)), (27, cnd (bs.getD 8 false) (.t .fz (.v (.string o)))), (28, cnd (bs.getD 9 false) (.ptr 3 1)), (29, cnd (bs.getD 10 false) (pI a)), (30, cnd (bs.getD 11 false) (.ptr 3 2)), (31, cnd (bs.getD 12 false) (pI b)), (32, cnd (bs.getD 13 false) (.agg [.t .fz (.v (.string o)), pI a, pI b, .t .fz (.v (.slice none 0 0))])), (8, cnd (bs.getD 14 false) (.ptr 8 0)), (9, cnd (bs.getD 15 false) (.ptr 9 0)), (3, .ptr 3 0), (6, .ptr 6 0), (7, .ptr 7 0), (1, pI left), (2, .ptr 1000000 0)], [(8, cndR (bs.getD 14 false) (.blk 37 (if bs.getD 16 false then [.t .fz (.v (.string o)), pI a, pI b, .t .fz (.v (.slice none 0 0))] else [.t .fz (.v (.string ByteArray.empty)), pI 0, pI 0, .t .fz (.v (.slice none 0 0))]))), (9, cndR (bs.getD 15 false) (.blk 44 (if bs.getD 17 false then [.t .fz (.v (.string o)), pI a, pI b, .t .fz (.v (.slice none 0 0))] else [.t .fz (.v (.string ByteArray.empty)), pI 0, pI 0, .t .fz (.v (.slice none 0 0))]))), (3, .blk 44 [.t .fz (.v (.string o)), pI a, pI b, .t .ro (.sl .any 4 (ks.map ftC))]), (6, .blk 37 [.t .fz (.v (.string ByteArray.empty)), pI 0, pI 0, .t .fz (.v (.slice none 0 0))]), (7, .blk 44 [.t .fz (.v (.string ByteArray.empty)), pI 0, pI 0, .t .fz (.v (.slice none 0 0))]), (1000000, .blk 3 [pI (n - 1)])]⟩) cv2D cv2T cv2P mixed (by kernel_rfl) (le_of (by simp) (by simp)) ?_ ?_
  · unfold cv2P
    simp -dsimp [-Bool.forall_bool]
    repeat' first
      | intro _
      | with_reducible apply And.intro
      | (refine le_of (by simp) ?_
         simp; done)
      | (rename_i x
         cases x <;> simp -dsimp)
  · simp -dsimp
    refine lg_adoptM 8 3 101 37 4 (by simp; exact ⟨rfl, rfl⟩) (by simp; rfl) (by simp) (by simp) ?_
    refine lg_adoptM 9 3 102 44 4 (by simp; exact ⟨rfl, rfl⟩) (by simp; rfl) (by simp) (by simp) ?_
    refine wk_loop (fun p : Nat × Int × List FT => ⟨[(36, pI p.1), (35, pI ks.length), (34, .t .ro (.sl .any 4 (ks.map ftC))), (8, .ptr 8 0), (9, .ptr 9 0), (6, .ptr 6 0), (7, .ptr 7 0), (1, pI left), (2, .ptr 1000000 0)],
        [(8, .blk 37 [.t .fz (.v (.string o)), pI a, pI b, .osl 101]), (9, .blk 44 [.t .fz (.v (.string o)), pI a, pI b, .osl 102]), (101, .row 37 4 .fz (p.2.2.map ftC)), (102, .row 44 4 .fz (p.2.2.map ftC)), (6, .blk 37 [.t .fz (.v (.string ByteArray.empty)), pI 0, pI 0, .t .fz (.v (.slice none 0 0))]), (7, .blk 44 [.t .fz (.v (.string ByteArray.empty)), pI 0, pI 0, .t .fz (.v (.slice none 0 0))]), (1000000, .blk 3 [pI p.2.1])]⟩)
      (fun p => p.1 ≤ ks.length ∧ p.1 ≤ 4 ∧ 0 ≤ p.2.1 ∧ p.2.1 ≤ 2010 ∧ p.2.2.length = p.1 ∧ (match left with
        | 0 => p.1 = 0 ∧ p.2.1 = n - 1
        | l + 1 => cvK left (n - 1) ks = (p.2.2 ++ (convL (convF l) p.2.1 p.1 (ks.drop p.1)).1, (convL (convF l) p.2.1 p.1 (ks.drop p.1)).2))) (fun p => ks.length - p.1) (0, n - 1, [])
      (le_of (by simp) (by simp)) ⟨Nat.zero_le _, Nat.zero_le _, by simp only; omega, by simp only; omega, rfl, by cases left <;> simp [cvK]⟩ fun ⟨i, m, acc⟩ ⟨hi, hi4, hm0, hm1, hacc, hinv⟩ => ?_
    dsimp only at hi hi4 hm0 hm1 hacc hinv
    simp -dsimp
    refine condX_dec (fun hlt => ?_) (fun hge => ?_)
    · have hlt' : i < ks.length := by omega
      have hi0 : (i : Int) < ks.length := by omega
      have hw1 := wr (n := (i : Int) + 1) (by omega) (by omega)
      obtain ⟨o', a', b', ks', hk'⟩ := ft_split ks[i]
      by_cases hl0 : left = 0
      · subst hl0
        simp only at hinv
        obtain ⟨hi00, hm⟩ := hinv
        have hac : acc = [] := List.eq_nil_of_length_eq_zero (by omega)
        have hfin : cvK 0 (n - 1) ks = (acc, m) := by rw [hac, hm]; rfl
        subst hi00
        rw [hfin]
        simp -dsimp [hlt, hi0, hlt', hk', ftC_mk]
        refine wk_dagS (fun bs => ⟨[(74, cnd (bs.getD 0 false) (.agg [.t .fz (.v (.string o)), pI a, pI b, .osl 101])), (75, cnd (bs.getD 1 false) (.agg [.t .fz (.v (.string o)), pI a, pI b, .osl 102])), (8, .ptr 8 0), (9, .ptr 9 0), (6, .ptr 6 0), (7, .ptr 7 0)], [(6, .blk 37 (if bs.getD 2 false then [.t .fz (.v (.string o)), pI a, pI b, .osl 101] else [.t .fz (.v (.string ByteArray.empty)), pI 0, pI 0, .t .fz (.v (.slice none 0 0))])), (7, .blk 44 (if bs.getD 3 false then [.t .fz (.v (.string o)), pI a, pI b, .osl 102] else [.t .fz (.v (.string ByteArray.empty)), pI 0, pI 0, .t .fz (.v (.slice none 0 0))])), (8, .blk 37 [.t .fz (.v (.string o)), pI a, pI b, .osl 101]), (9, .blk 44 [.t .fz (.v (.string o)), pI a, pI b, .osl 102]), (101, .row 37 4 .fz (acc.map ftC)), (102, .row 44 4 .fz (acc.map ftC)), (1000000, .blk 3 [pI m])]⟩) cv10D cv10T cv10P mixed (by kernel_rfl) (le_of (by simp) (by simp)) ?_ ?_
        · unfold cv10P
          simp -dsimp [-Bool.forall_bool]
          repeat' first
            | intro _
            | with_reducible apply And.intro
            | (refine le_of (by simp) ?_
               simp; done)
            | (rename_i x
               cases x <;> simp -dsimp)
        · simp -dsimp
          refine retE_c (by simp -dsimp) (by simp)
      · obtain ⟨l, rfl⟩ : ∃ l, left = l + 1 := ⟨left - 1, by omega⟩
        simp only at hinv
        rw [convL_drop _ _ _ hlt'] at hinv
        have hll : ¬ ((l : Int) + 1 < 1) := by omega
        by_cases hc : m < 1
        · have hfin : cvK (l + 1) (n - 1) ks = (acc, m) := by rw [hinv, if_pos (.inl hc)]; simp
          rw [hfin]
          simp -dsimp [hlt, hi0, hlt', hk', ftC_mk, hll, hc]
          refine wk_dagS (fun bs => ⟨[(74, cnd (bs.getD 0 false) (.agg [.t .fz (.v (.string o)), pI a, pI b, .osl 101])), (75, cnd (bs.getD 1 false) (.agg [.t .fz (.v (.string o)), pI a, pI b, .osl 102])), (8, .ptr 8 0), (9, .ptr 9 0), (6, .ptr 6 0), (7, .ptr 7 0)], [(6, .blk 37 (if bs.getD 2 false then [.t .fz (.v (.string o)), pI a, pI b, .osl 101] else [.t .fz (.v (.string ByteArray.empty)), pI 0, pI 0, .t .fz (.v (.slice none 0 0))])), (7, .blk 44 (if bs.getD 3 false then [.t .fz (.v (.string o)), pI a, pI b, .osl 102] else [.t .fz (.v (.string ByteArray.empty)), pI 0, pI 0, .t .fz (.v (.slice none 0 0))])), (8, .blk 37 [.t .fz (.v (.string o)), pI a, pI b, .osl 101]), (9, .blk 44 [.t .fz (.v (.string o)), pI a, pI b, .osl 102]), (101, .row 37 4 .fz (acc.map ftC)), (102, .row 44 4 .fz (acc.map ftC)), (1000000, .blk 3 [pI m])]⟩) cv10D cv10T cv10P mixed (by kernel_rfl) (le_of (by simp) (by simp)) ?_ ?_
          · unfold cv10P
            simp -dsimp [-Bool.forall_bool]
            repeat' first
              | intro _
              | with_reducible apply And.intro
              | (refine le_of (by simp) ?_
                 simp; done)
              | (rename_i x
                 cases x <;> simp -dsimp)
          · simp -dsimp
            refine retE_c (by simp -dsimp) (by simp)
        · by_cases hc3 : 3 < i
          · have hc3i : (3 : Int) < (i : Int) := by omega
            have hfin : cvK (l + 1) (n - 1) ks = (acc, m) := by rw [hinv, if_pos (.inr hc3)]; simp
            rw [hfin]
            simp -dsimp [hlt, hi0, hlt', hk', ftC_mk, hll, hc, hc3, hc3i]
            refine wk_dagS (fun bs => ⟨[(74, cnd (bs.getD 0 false) (.agg [.t .fz (.v (.string o)), pI a, pI b, .osl 101])), (75, cnd (bs.getD 1 false) (.agg [.t .fz (.v (.string o)), pI a, pI b, .osl 102])), (8, .ptr 8 0), (9, .ptr 9 0), (6, .ptr 6 0), (7, .ptr 7 0)], [(6, .blk 37 (if bs.getD 2 false then [.t .fz (.v (.string o)), pI a, pI b, .osl 101] else [.t .fz (.v (.string ByteArray.empty)), pI 0, pI 0, .t .fz (.v (.slice none 0 0))])), (7, .blk 44 (if bs.getD 3 false then [.t .fz (.v (.string o)), pI a, pI b, .osl 102] else [.t .fz (.v (.string ByteArray.empty)), pI 0, pI 0, .t .fz (.v (.slice none 0 0))])), (8, .blk 37 [.t .fz (.v (.string o)), pI a, pI b, .osl 101]), (9, .blk 44 [.t .fz (.v (.string o)), pI a, pI b, .osl 102]), (101, .row 37 4 .fz (acc.map ftC)), (102, .row 44 4 .fz (acc.map ftC)), (1000000, .blk 3 [pI m])]⟩) cv10D cv10T cv10P mixed (by kernel_rfl) (le_of (by simp) (by simp)) ?_ ?_
            · unfold cv10P
              simp -dsimp [-Bool.forall_bool]
              repeat' first
                | intro _
                | with_reducible apply And.intro
                | (refine le_of (by simp) ?_
                   simp; done)
                | (rename_i x
                   cases x <;> simp -dsimp)
            · simp -dsimp
              refine retE_c (by simp -dsimp) (by simp)
          · have hc3i : ¬ (3 : Int) < (i : Int) := by omega
            rw [if_neg (fun h => h.elim hc hc3)] at hinv
            have hwl := wr (n := (l : Int)) (by omega) (by omega)
            have hel : (l : Int) + 1 - 1 = (l : Int) := by omega
            have hrec := ih l (by omega) (by omega) m o' a' b' ks' (by omega) hm1
            have hmk := convF_mk l m o' a' b' ks'
            have hbd := convF_bd l m ks[i] (by omega) hm1
            rw [hk'] at hinv hbd
            rw [hmk] at hinv hbd
            have hcl : (cvK l (m - 1) ks').1.length ≤ 4 := by
              cases l with
              | zero => simp [cvK]
              | succ l => exact convL_len _ ks' _ 0
            generalize cvK l (m - 1) ks' = z at *
            obtain ⟨C, m'⟩ := z
            simp only at hinv hbd hcl hrec
            simp only [cvR, cvM, ftK] at hrec
            have hbA : (acc.length + 1) * 56 ≤ 140737488355328 := by omega
            have hsn : (acc ++ [FT.mk o' a' b' C]).map ftC = acc.map ftC ++ [[.v (.string o'), eI a', eI b', .sl .any 4 (C.map ftC)]] := by rw [List.map_append, List.map_cons, ftC_mk]; rfl
            simp -dsimp [hlt, hi0, hlt', hk', ftC_mk, hll, hc, hc3, hc3i, hel, hwl]
            first
              | refine CallG.on (g := [(1000000, 1000000), (201, 101), (202, 102)]) (hrec) (by decide) (by simp) (by simp) (by simp [Sg.bk]) ?_
              | refine CallN.on (g := [(1000000, 1000000), (201, 101), (202, 102)]) (hrec) (by decide) (by simp) (by simp) (by simp [Sg.bk]) ?_
              | refine CallGB.on (g := [(1000000, 1000000), (201, 101), (202, 102)]) (hrec) (by decide) (by simp) (by simp) (by simp [Sg.bk]) ?_
            simp -dsimp
            refine dg_frz [201, 202] ?_
            simp -dsimp
            generalize C.map ftC = K at *
            refine wk_dagS (fun bs => ⟨[(61, cnd (bs.getD 0 false) (.ptr 8 3)), (62, cnd (bs.getD 1 false && !bs.getD 4 false) (.osl 101)), (63, cnd (bs.getD 2 false) (.agg [.t .fz (.v (.string o')), pI a', pI b', .t .fz (.sl .any 4 K)])), (64, cnd (bs.getD 3 false) (.osl 64)), (65, cnd (bs.getD 4 false) (.osl 101)), (66, cnd (bs.getD 5 false) (.ptr 9 3)), (67, cnd (bs.getD 6 false && !bs.getD 9 false) (.osl 102)), (68, cnd (bs.getD 7 false) (.agg [.t .fz (.v (.string o')), pI a', pI b', .t .fz (.sl .any 4 K)])), (69, cnd (bs.getD 8 false) (.osl 69)), (70, cnd (bs.getD 9 false) (.osl 102)), (71, cnd (bs.getD 10 false) (.ptr 8 3)), (72, cnd (bs.getD 12 false) (.ptr 9 3)), (12, .ptr 12 0), (13, .ptr 13 0), (36, pI i), (35, pI ks.length), (34, .t .ro (.sl .any 4 (ks.map ftC))), (8, .ptr 8 0), (9, .ptr 9 0), (6, .ptr 6 0), (7, .ptr 7 0), (1, pI ((l : Int) + 1)), (2, .ptr 1000000 0)],
          [(8, .blk 37 [.t .fz (.v (.string o)), pI a, pI b, if bs.getD 4 false && !bs.getD 11 false then .undef else .osl 101]), (9, .blk 44 [.t .fz (.v (.string o)), pI a, pI b, if bs.getD 9 false && !bs.getD 13 false then .undef else .osl 102]),
          (101, .row 37 4 .fz (acc.map ftC ++ if bs.getD 4 false then [[.v (.string o'), eI a', eI b', .sl .any 4 K]] else [])), (102, .row 44 4 .fz (acc.map ftC ++ if bs.getD 9 false then [[.v (.string o'), eI a', eI b', .sl .any 4 K]] else [])),
          (64, cndR (bs.getD 3 false) (.row 37 4 .fz [[.v (.string o'), eI a', eI b', .sl .any 4 K]])), (69, cndR (bs.getD 8 false) (.row 44 4 .fz [[.v (.string o'), eI a', eI b', .sl .any 4 K]])),
          (12, .blk 37 [.t .fz (.v (.string o')), pI a', pI b', .t .fz (.sl .any 4 K)]), (13, .blk 44 [.t .fz (.v (.string o')), pI a', pI b', .t .fz (.sl .any 4 K)]), (6, .blk 37 [.t .fz (.v (.string ByteArray.empty)), pI 0, pI 0, .t .fz (.v (.slice none 0 0))]), (7, .blk 44 [.t .fz (.v (.string ByteArray.empty)), pI 0, pI 0, .t .fz (.v (.slice none 0 0))]), (1000000, .blk 3 [pI m'])]⟩) cv8D cv8T cv8P mixed (by kernel_rfl) (le_of (by simp) (by simp)) ?_ ?_
            · unfold cv8P
              simp -dsimp [hbA, -Bool.forall_bool]
              repeat' first
                | intro _
                | with_reducible apply And.intro
                | (refine le_of (by simp) ?_
                   simp; done)
                | (rename_i x
                   cases x <;> simp -dsimp)
            · simp -dsimp [hw1]
              refine LoopP_next (i + 1, m', acc ++ [FT.mk o' a' b' C]) (le_of (by simp) (by simp [hsn])) ⟨hlt', by simp only; omega, hbd.1, by simp only; omega, by simp [hacc], ?_⟩ (by simp only; omega)
              simp only
              rw [hinv, List.append_assoc]
              rfl
    · have hie : i = ks.length := by omega
      have hfin : cvK left (n - 1) ks = (acc, m) := by
        cases left with
        | zero =>
          simp only at hinv
          have hac : acc = [] := List.eq_nil_of_length_eq_zero (by omega)
          rw [hac, hinv.2]
          rfl
        | succ l =>
          simp only at hinv
          rw [hinv, hie, List.drop_length, convL]
          simp
      rw [hfin]
      simp -dsimp
      refine wk_dagS (fun bs => ⟨[(74, cnd (bs.getD 0 false) (.agg [.t .fz (.v (.string o)), pI a, pI b, .osl 101])), (75, cnd (bs.getD 1 false) (.agg [.t .fz (.v (.string o)), pI a, pI b, .osl 102])), (8, .ptr 8 0), (9, .ptr 9 0), (6, .ptr 6 0), (7, .ptr 7 0)], [(6, .blk 37 (if bs.getD 2 false then [.t .fz (.v (.string o)), pI a, pI b, .osl 101] else [.t .fz (.v (.string ByteArray.empty)), pI 0, pI 0, .t .fz (.v (.slice none 0 0))])), (7, .blk 44 (if bs.getD 3 false then [.t .fz (.v (.string o)), pI a, pI b, .osl 102] else [.t .fz (.v (.string ByteArray.empty)), pI 0, pI 0, .t .fz (.v (.slice none 0 0))])), (8, .blk 37 [.t .fz (.v (.string o)), pI a, pI b, .osl 101]), (9, .blk 44 [.t .fz (.v (.string o)), pI a, pI b, .osl 102]), (101, .row 37 4 .fz (acc.map ftC)), (102, .row 44 4 .fz (acc.map ftC)), (1000000, .blk 3 [pI m])]⟩) cv10D cv10T cv10P mixed (by kernel_rfl) (le_of (by simp) (by simp)) ?_ ?_
      · unfold cv10P
        simp -dsimp [-Bool.forall_bool]
        repeat' first
          | intro _
          | with_reducible apply And.intro
          | (refine le_of (by simp) ?_
             simp; done)
          | (rename_i x
             cases x <;> simp -dsimp)
      · simp -dsimp
        refine retE_c (by simp -dsimp) (by simp)
/-- What Of makes of a formula. -/
def ofF (f : FT) : FT := (convF 43 2010 f).1
theorem Of_spec (f : FT) : PCall Tryz.prog 24 [.agg (ftC f)] (.t .ro (.tup [.agg (ftC (ofF f)), .agg (ftC (ofF f))])) [] := by
  obtain ⟨o, a, b, ks, hk⟩ := ft_split f
  have hc := converted_spec 43 (by omega) 2010 o a b ks (by omega) (by omega)
  have hO : ofF f = .mk o a b (cvK 43 (2010 - 1) ks).1 := by rw [ofF, hk, convF_mk]
  rw [hO, hk, ftC_mk, ftC_mk]
  generalize cvK 43 (2010 - 1) ks = z at *
  obtain ⟨C, m⟩ := z
  simp only [cvR, cvM, ftK] at hc ⊢
  refine pcall_wpT Tryz.func24 rfl (by kernel_rfl) ?_
  simp -dsimp
  first
    | refine CallG.on (g := [(4, 1000000), (101, 101), (102, 102)]) (hc) (by decide) (by simp) (by simp) (by simp [Sg.bk]) ?_
    | refine CallN.on (g := [(4, 1000000), (101, 101), (102, 102)]) (hc) (by decide) (by simp) (by simp) (by simp [Sg.bk]) ?_
    | refine CallGB.on (g := [(4, 1000000), (101, 101), (102, 102)]) (hc) (by decide) (by simp) (by simp) (by simp [Sg.bk]) ?_
  simp -dsimp
  refine retT_c ?_
  simp -dsimp
end Go.Proofs.YtnikonhkbldnnaaGreatDoor
