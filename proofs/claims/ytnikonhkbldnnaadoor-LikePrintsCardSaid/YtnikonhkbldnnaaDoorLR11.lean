import Derived.Test.YtnikonhkbldnnaaDoorLB32
import Derived.Test.YtnikonhkbldnnaaDoorLR9
/- LR11: the reference's Text. -/
set_option linter.unusedVariables false
set_option linter.unusedSimpArgs false
set_option maxRecDepth 20000
namespace Go.Proofs.YtnikonhkbldnnaaDoor
open Go Go.PS
attribute [-simp] isKeyK List.map_take
theorem sAdd (a b : List UInt8) (h : a.length + b.length ≤ 1000000000) : sBin .add (.string ⟨a.toArray⟩) (.string ⟨b.toArray⟩) = some (.string ⟨(a ++ b).toArray⟩) := by
  have h2 : Nat.ble ((ByteArray.mk a.toArray).size + (ByteArray.mk b.toArray).size) 9223372036854775807 = true := by
    rw [ba_size, ba_size]
    exact Nat.ble_eq_true_of_le (Nat.le_trans h (by decide))
  simp only [sBin]
  rw [if_pos h2, ba_app]
theorem sEql (a b : ByteArray) : sBin .eql (.string a) (.string b) = some (.bool (a.toList == b.toList)) := rfl
theorem sAddI (a b : Int) : sBin .add (.int .i64 a) (.int .i64 b) = some (.int .i64 (IntKind.i64.wrap (a + b))) := by simp [sBin]
theorem abcd (x : Nat) (hx : x < 4) : (ByteArray.mk #[97, 98, 99, 100]).extract x (x + 1) = ⟨[ltr x].toArray⟩ := by
  match x, hx with
  | 0, _ => decide
  | 1, _ => decide
  | 2, _ => decide
  | 3, _ => decide
set_option maxHeartbeats 2000000 in
theorem Text_spec : ∀ (N : Nat) (f : FT), nodesF f ≤ N → shapedF f = true → nodesF f ≤ 100000 → PCall Tryd.prog 11 [.agg (ftC f)] (.t .fz (.v (.string ⟨(prT f).toArray⟩))) [] := by
  intro N
  induction N with
  | zero =>
    intro f hN
    have := nodesF_pos f
    omega
  | succ N ih =>
    intro f hN hsh hM
    obtain ⟨o, a, b, ks, rfl⟩ := ft_split f
    obtain ⟨⟨x, y, rfl, rfl, hx, hy⟩, hkn, hks, hk2⟩ := shaped_parts hsh
    rw [nodesF] at hN hM
    have ax := abcd x hx
    have ay := abcd y hy
    have sz : (ByteArray.mk #[97, 98, 99, 100]).size = 4 := rfl
    have tx : ((x : Int) + 1).toNat = x + 1 := by omega
    have ty : ((y : Int) + 1).toNat = y + 1 := by omega
    have wx := wr (n := (x : Int) + 1) (by omega) (by omega)
    have wy := wr (n := (y : Int) + 1) (by omega) (by omega)
    have x1 : (x : Int) + 1 ≤ 4 := by omega
    have y1 : (y : Int) + 1 ≤ 4 := by omega
    have x2 : (x : Int) ≤ (x : Int) + 1 := by omega
    have y2 : (y : Int) ≤ (y : Int) + 1 := by omega
    have rec1 : ∀ k, k ∈ ks → PCall Tryd.prog 11 [.agg (ftC k)] (.t .fz (.v (.string ⟨(prT k).toArray⟩))) [] ∧ (prT k).length ≤ 4 * nodesF k ∧ ∃ o' a' b' ks', k = .mk o' a' b' ks' ∧ ftC k = [.v (.string o'), eI a', eI b', .sl .any 4 (ks'.map ftC)] := fun k hk => by
      have hnk := nodes_mem hk
      refine ⟨ih k (by omega) (hks k hk) (by omega), prT_len k, ?_⟩
      obtain ⟨o', a', b', ks', rfl⟩ := ft_split k
      exact ⟨o', a', b', ks', rfl, ftC_mk _ _ _ _⟩
    rw [ftC_mk]
    refine pcall_wp _ Tryd.func11 rfl (by kernel_rfl) rfl ?_
    rcases op_cases o with rfl | rfl | rfl | rfl | rfl | h
    · obtain rfl : ks = [] := List.eq_nil_of_length_eq_zero (by have := kidsI_eq; omega)
      have hp : prT (.mk oEq x y []) = [ltr x, 61, ltr y] := by rw [prT]; simp [oNo_ne]
      rw [hp]
      have q1 := sAdd [ltr x] [61] (by simp; try omega)
      have q2 := sAdd [ltr x, 61] [ltr y] (by simp; try omega)
      simp only [List.cons_append, List.nil_append, List.append_assoc] at q1 q2
      simp -dsimp
      refine wk_draw 13 [] mixed (by kernel_rfl) ?_
      simp -dsimp [ax, ay, sz, tx, ty, wx, wy, x1, y1, x2, y2, -sBin, sAddI, sEql, q1, q2]
      refine retP_c ?_
      simp -dsimp
    · obtain rfl : ks = [] := List.eq_nil_of_length_eq_zero (by have := kidsI_ad; omega)
      have hp : prT (.mk oAd x y []) = [ltr x, 126, ltr y] := by rw [prT]; simp [oNo_ne]
      rw [hp]
      have q1 := sAdd [ltr x] [126] (by simp; try omega)
      have q2 := sAdd [ltr x, 126] [ltr y] (by simp; try omega)
      simp only [List.cons_append, List.nil_append, List.append_assoc] at q1 q2
      simp -dsimp
      refine wk_draw 13 [] mixed (by kernel_rfl) ?_
      simp -dsimp [ax, ay, sz, tx, ty, wx, wy, x1, y1, x2, y2, -sBin, sAddI, sEql, q1, q2]
      refine retP_c ?_
      simp -dsimp
    · obtain ⟨k, rfl⟩ : ∃ k, ks = [k] := List.length_eq_one_iff.1 (by have := kidsI_no; omega)
      have hp : prT (.mk oNo x y [k]) = 33 :: prT k := by rw [prT]; simp [oNo_ne, prTL]
      rw [hp]
      obtain ⟨hr, hlen, o', a', b', ks', hk, hk3⟩ := rec1 k (by simp)
      have hnk : nodesL [k] = nodesF k := by simp [nodesL]
      rw [hk3] at hr
      generalize prT k = T at *
      have q1 := sAdd [33] T (by simp; try omega)
      simp only [List.cons_append, List.nil_append, List.append_assoc] at q1
      simp -dsimp
      refine wk_draw 13 [] mixed (by kernel_rfl) ?_
      simp -dsimp [ax, ay, sz, tx, ty, wx, wy, x1, y1, x2, y2, hk3, -sBin, sAddI, sEql]
      first
        | refine CallG.by (hr) ?_
        | refine CallGE.by (hr) ?_
        | refine CallGB.by (hr) ?_
      simp -dsimp [-sBin, q1]
      refine retP_c ?_
      simp -dsimp
    · obtain ⟨k, rfl⟩ : ∃ k, ks = [k] := List.length_eq_one_iff.1 (by have := kidsI_ex; omega)
      have hp : prT (.mk oEx x y [k]) = 69 :: ltr x :: 32 :: prT k := by rw [prT]; simp [oNo_ne, prTL]
      rw [hp]
      obtain ⟨hr, hlen, o', a', b', ks', hk, hk3⟩ := rec1 k (by simp)
      have hnk : nodesL [k] = nodesF k := by simp [nodesL]
      rw [hk3] at hr
      generalize prT k = T at *
      have q1 := sAdd [69] [ltr x] (by simp; try omega)
      have q2 := sAdd [69, ltr x] [32] (by simp; try omega)
      have q3 := sAdd [69, ltr x, 32] T (by simp; try omega)
      simp only [List.cons_append, List.nil_append, List.append_assoc] at q1 q2 q3
      simp -dsimp
      refine wk_draw 13 [] mixed (by kernel_rfl) ?_
      simp -dsimp [ax, ay, sz, tx, ty, wx, wy, x1, y1, x2, y2, hk3, -sBin, sAddI, sEql, q1, q2]
      first
        | refine CallG.by (hr) ?_
        | refine CallGE.by (hr) ?_
        | refine CallGB.by (hr) ?_
      simp -dsimp [-sBin, q3]
      refine retP_c ?_
      simp -dsimp
    · obtain ⟨k, k2, rfl⟩ : ∃ k l, ks = [k, l] := by
        have h : ks.length = 2 := by have := kidsI_an; omega
        match ks, h with
        | [k, l], _ => exact ⟨k, l, rfl⟩
      have hp : prT (.mk oAn x y [k, k2]) = 40 :: (prT k ++ 38 :: (prT k2 ++ [41])) := by rw [prT]; simp [oNo_ne, prTL]
      rw [hp]
      obtain ⟨hr, hlen, o', a', b', ks', hk, hk3⟩ := rec1 k (by simp)
      obtain ⟨hr2, hlen2, o'', a'', b'', ks'', hk', hk4⟩ := rec1 k2 (by simp)
      have hnk : nodesL [k, k2] = nodesF k + nodesF k2 := by simp [nodesL]
      rw [hk3] at hr
      rw [hk4] at hr2
      generalize prT k = T at *
      generalize prT k2 = T2 at *
      have q1 := sAdd [40] T (by simp; try omega)
      have q2 := sAdd (40 :: T) [38] (by simp; try omega)
      have q3 := sAdd (40 :: (T ++ [38])) T2 (by simp; try omega)
      have q4 := sAdd (40 :: (T ++ 38 :: T2)) [41] (by simp; try omega)
      simp only [List.cons_append, List.nil_append, List.append_assoc] at q1 q2 q3 q4
      simp -dsimp
      refine wk_draw 13 [] mixed (by kernel_rfl) ?_
      simp -dsimp [ax, ay, sz, tx, ty, wx, wy, x1, y1, x2, y2, -sBin, sAddI, sEql]
      refine wk_draw 12 [11] mixed (by kernel_rfl) ?_
      simp -dsimp [hk3, hk4, -sBin]
      first
        | refine CallG.by (hr) ?_
        | refine CallGE.by (hr) ?_
        | refine CallGB.by (hr) ?_
      simp -dsimp [hk3, hk4, -sBin, q1, q2]
      first
        | refine CallG.by (hr2) ?_
        | refine CallGE.by (hr2) ?_
        | refine CallGB.by (hr2) ?_
      simp -dsimp [-sBin, q3, q4]
      refine retP_c ?_
      simp -dsimp
    · rw [kidsI_none h] at hkn
      omega
end Go.Proofs.YtnikonhkbldnnaaDoor
