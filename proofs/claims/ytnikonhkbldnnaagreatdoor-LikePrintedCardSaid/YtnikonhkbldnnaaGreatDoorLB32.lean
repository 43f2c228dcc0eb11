import Derived.Test.YtnikonhkbldnnaaGreatDoorLBld
import Derived.Test.YtnikonhkbldnnaaGreatDoorLB29
/- LB32: print of a formula. -/
set_option linter.unusedVariables false
set_option linter.unusedSimpArgs false
set_option maxRecDepth 20000
namespace Go.Proofs.YtnikonhkbldnnaaGreatDoor
open Go Go.PS
attribute [-simp] isKeyK List.map_take
mutual
def prT : FT → List UInt8
  | .mk o a b ks => if o = oEq then [ltr a.toNat, 61, ltr b.toNat] else if o = oAd then [ltr a.toNat, 126, ltr b.toNat] else if o = oNo then 33 :: prTL ks 0 else if o = oEx then 69 :: ltr a.toNat :: 32 :: prTL ks 0
    else 40 :: (prTL ks 0 ++ 38 :: (prTL ks 1 ++ [41]))
def prTL : List FT → Nat → List UInt8
  | [], _ => []
  | k :: _, 0 => prT k
  | _ :: l, i + 1 => prTL l i
end
mutual
theorem prT_len : ∀ f : FT, (prT f).length ≤ 4 * nodesF f
  | .mk o a b ks => by
    have h0 := prTL_len ks 0
    have h1 := prTL_len2 ks
    rw [prT, nodesF]
    split
    · simp; omega
    · split
      · simp; omega
      · split
        · simp; omega
        · split
          · simp; omega
          · simp; omega
theorem prTL_len : ∀ (l : List FT) (i : Nat), (prTL l i).length ≤ 4 * nodesL l
  | [], i => by simp [prTL]
  | k :: l, 0 => by
    have := prT_len k
    rw [prTL, nodesL]
    omega
  | k :: l, i + 1 => by
    have := prTL_len l i
    rw [prTL, nodesL]
    omega
theorem prTL_len2 : ∀ (l : List FT), (prTL l 0).length + (prTL l 1).length ≤ 4 * nodesL l
  | [] => by simp [prTL]
  | k :: l => by
    have h1 := prT_len k
    have h2 := prTL_len l 0
    rw [prTL, prTL, nodesL]
    omega
end
theorem ba_app (a b : List UInt8) : (ByteArray.mk a.toArray) ++ (ByteArray.mk b.toArray) = ByteArray.mk (a ++ b).toArray := by
  apply ByteArray.ext
  simp
@[simp] theorem imax : IntKind.i64.max = 9223372036854775807 := rfl
theorem ecall_arg0 {P : Program} {f : FuncId} {p p' : PV} {args : List PV} {M M' : List (Nat × Res)} {r : PV} (h : ECall P f (p' :: args) M r M') (hpp : ∀ (w : World) (φ : Nat → Value) (S : Nat → Prop) (v : Value), PVRep w φ (fun k g => k = .ro ∧ S g) p v → PVRep w φ (fun k g => k = .ro ∧ S g) p' v) : ECall P f (p :: args) M r M' :=
  ⟨h.1, fun w S φ fp vals hH => h.2 w S φ fp vals ⟨hH.stays, by simpa using hH.size, hH.res, hH.disj, hH.lt, fun i x hx => by
    cases i with
    | zero =>
      simp at hx
      subst hx
      exact hpp _ _ _ _ (hH.args 0 p rfl)
    | succ i => exact hH.args (i + 1) x (by simpa using hx), hH.gl⟩⟩
theorem letter_spec (x : Nat) (hx : x < 4) : PCall Tryz.prog 112 [eI x] (.t .fz (.v (.string ⟨[ltr x].toArray⟩))) [] := by
  have sz : (ByteArray.mk #[97, 98, 99, 100]).size = 4 := rfl
  have e0 : (ByteArray.mk #[97, 98, 99, 100]).extract 0 1 = ⟨#[97]⟩ := by decide
  have e1 : (ByteArray.mk #[97, 98, 99, 100]).extract 1 2 = ⟨#[98]⟩ := by decide
  have e2 : (ByteArray.mk #[97, 98, 99, 100]).extract 2 3 = ⟨#[99]⟩ := by decide
  have e3 : (ByteArray.mk #[97, 98, 99, 100]).extract 3 4 = ⟨#[100]⟩ := by decide
  have l0 : ltr 0 = 97 := rfl
  have l1 : ltr 1 = 98 := rfl
  have l2 : ltr 2 = 99 := rfl
  have l3 : ltr 3 = 100 := rfl
  have w0 := wr (n := 1) (by omega) (by omega)
  refine pcall_wp _ Tryz.func112 rfl (by kernel_rfl) rfl ?_
  match x, hx with
  | 0, _ =>
    simp -dsimp [sz, e0, e1, e2, e3, wr]
    refine retP_c ?_
    simp -dsimp [l0]
  | 1, _ =>
    simp -dsimp [sz, e0, e1, e2, e3, wr]
    refine retP_c ?_
    simp -dsimp [l1]
  | 2, _ =>
    simp -dsimp [sz, e0, e1, e2, e3, wr]
    refine retP_c ?_
    simp -dsimp [l2]
  | 3, _ =>
    simp -dsimp [sz, e0, e1, e2, e3, wr]
    refine retP_c ?_
    simp -dsimp [l3]
set_option maxHeartbeats 2000000 in
theorem write_spec : ∀ (N : Nat) (o : ByteArray) (x y : Nat) (ks : List FT), nodesF (.mk o x y ks) ≤ N → shapedF (.mk o x y ks) = true → ∀ (fresh : Bool) (l : List UInt8), l.length + 4 * nodesF (.mk o x y ks) ≤ 100000 →
    ECall Tryz.prog 88 [.t .ro (.agg [.v (.string o), eI x, eI y, .sl .any 4 (ks.map ftC)]), .ptr 1000000 0] (bM (bA fresh) .ro l) (.tup []) (bM (.ptr 1000000 0) .ro (l ++ prT (.mk o x y ks)))
  | 0, o, x, y, ks, hN, _, _, _, _ => by have := nodesF_pos (.mk o x y ks); omega
  | N + 1, o, x, y, ks, hN, hsh, fresh, l, hl => by
    obtain ⟨⟨x', y', ex, ey, hx, hy⟩, hkn, hks, hk2⟩ := shaped_parts hsh
    have ex' : x = x' := by omega
    have ey' : y = y' := by omega
    subst ex'
    subst ey'
    rw [nodesF] at hN hl
    have lx := letter_spec x hx
    have ly := letter_spec y hy
    have rec1 : ∀ k, k ∈ ks → ∀ (fresh : Bool) (l : List UInt8), l.length + 4 * nodesF k ≤ 100000 → ∃ (o' : ByteArray) (x' y' : Nat) (ks' : List FT), k = .mk o' x' y' ks' ∧
        ECall Tryz.prog 88 [.t .ro (.agg [.v (.string o'), eI x', eI y', .sl .any 4 (ks'.map ftC)]), .ptr 1000000 0] (bM (bA fresh) .ro l) (.tup []) (bM (.ptr 1000000 0) .ro (l ++ prT k)) := fun k hk fresh l hl => by
      have hsk := hks k hk
      have hnk := nodes_mem hk
      obtain ⟨o', a', b', ks', rfl⟩ := ft_split k
      obtain ⟨⟨x', y', rfl, rfl, _, _⟩, _⟩ := shaped_parts hsk
      exact ⟨o', x', y', ks', rfl, write_spec N o' x' y' ks' (by omega) hsk fresh l hl⟩
    have hbA : ∀ l, bM (.ptr 1000000 0) .ro l = bM (bA false) .ro l := fun l => rfl
    unfold bM at *
    refine ecall_wp Tryz.func88 rfl (by kernel_rfl) ?_
    rcases op_cases o with rfl | rfl | rfl | rfl | rfl | h
    · obtain rfl : ks = [] := List.eq_nil_of_length_eq_zero (by have := kidsI_eq; omega)
      have hp : prT (.mk oEq x y []) = [ltr x, 61, ltr y] := by rw [prT]; simp [oNo_ne]
      rw [hp]
      have hw := ws_spec fresh l [ltr x, 61, ltr y] (by simp; omega)
      unfold bM at hw
      have c1 := ba_app [ltr x] [61]
      have c2 := ba_app [ltr x, 61] [ltr y]
      simp only [List.cons_append, List.nil_append] at c1 c2
      generalize ltr x = X at *
      generalize ltr y = Y at *
      cases fresh
      all_goals
        simp only [bA, if_true, Bool.false_eq_true, if_false] at hw ⊢
        simp -dsimp
        refine wk_draw 11 [9] mixed (by kernel_rfl) ?_
        simp -dsimp
        first
          | refine CallG.by (lx) ?_
          | refine CallGE.by (lx) ?_
          | refine CallGB.by (lx) ?_
        simp -dsimp [c1]
        first
          | refine CallG.by (ly) ?_
          | refine CallGE.by (ly) ?_
          | refine CallGB.by (ly) ?_
        simp -dsimp [c2]
        first
          | refine CallG.on (g := [(1000000, 1000000), (501, 501)]) (hw) (by decide) (by simp) (by simp) (by simp [Sg.bk]) ?_
          | refine CallN.on (g := [(1000000, 1000000), (501, 501)]) (hw) (by decide) (by simp) (by simp) (by simp [Sg.bk]) ?_
          | refine CallGB.on (g := [(1000000, 1000000), (501, 501)]) (hw) (by decide) (by simp) (by simp) (by simp [Sg.bk]) ?_
        simp -dsimp
        refine retE_c (by simp -dsimp) (by simp)
    · obtain rfl : ks = [] := List.eq_nil_of_length_eq_zero (by have := kidsI_ad; omega)
      have hp : prT (.mk oAd x y []) = [ltr x, 126, ltr y] := by rw [prT]; simp [oNo_ne]
      rw [hp]
      have hw := ws_spec fresh l [ltr x, 126, ltr y] (by simp; omega)
      unfold bM at hw
      have c1 := ba_app [ltr x] [126]
      have c2 := ba_app [ltr x, 126] [ltr y]
      simp only [List.cons_append, List.nil_append] at c1 c2
      generalize ltr x = X at *
      generalize ltr y = Y at *
      cases fresh
      all_goals
        simp only [bA, if_true, Bool.false_eq_true, if_false] at hw ⊢
        simp -dsimp
        refine wk_draw 11 [9] mixed (by kernel_rfl) ?_
        simp -dsimp
        first
          | refine CallG.by (lx) ?_
          | refine CallGE.by (lx) ?_
          | refine CallGB.by (lx) ?_
        simp -dsimp [c1]
        first
          | refine CallG.by (ly) ?_
          | refine CallGE.by (ly) ?_
          | refine CallGB.by (ly) ?_
        simp -dsimp [c2]
        first
          | refine CallG.on (g := [(1000000, 1000000), (501, 501)]) (hw) (by decide) (by simp) (by simp) (by simp [Sg.bk]) ?_
          | refine CallN.on (g := [(1000000, 1000000), (501, 501)]) (hw) (by decide) (by simp) (by simp) (by simp [Sg.bk]) ?_
          | refine CallGB.on (g := [(1000000, 1000000), (501, 501)]) (hw) (by decide) (by simp) (by simp) (by simp [Sg.bk]) ?_
        simp -dsimp
        refine retE_c (by simp -dsimp) (by simp)
    · obtain ⟨k, rfl⟩ : ∃ k, ks = [k] := List.length_eq_one_iff.1 (by have := kidsI_no; omega)
      have hp : prT (.mk oNo x y [k]) = 33 :: prT k := by rw [prT]; simp [oNo_ne, prTL]
      rw [hp]
      have hw := ws_spec fresh l [33] (by simp; omega)
      have hnk : nodesL [k] = nodesF k := by simp [nodesL]
      obtain ⟨o', x', y', ks', hk, hr⟩ := rec1 k (by simp) false (l ++ [33]) (by simp; omega)
      rw [List.append_assoc, List.singleton_append] at hr
      unfold bM at hw
      simp only [bA, Bool.false_eq_true, if_false] at hr
      have hk2 : ftC k = [.v (.string o'), eI x', eI y', .sl .any 4 (ks'.map ftC)] := by rw [hk, ftC_mk]
      generalize prT k = Tk at *
      cases fresh
      all_goals
        simp only [bA, if_true, Bool.false_eq_true, if_false] at hw ⊢
        simp -dsimp
        first
          | refine CallG.on (g := [(1000000, 1000000), (501, 501)]) (hw) (by decide) (by simp) (by simp) (by simp [Sg.bk]) ?_
          | refine CallN.on (g := [(1000000, 1000000), (501, 501)]) (hw) (by decide) (by simp) (by simp) (by simp [Sg.bk]) ?_
          | refine CallGB.on (g := [(1000000, 1000000), (501, 501)]) (hw) (by decide) (by simp) (by simp) (by simp [Sg.bk]) ?_
        simp -dsimp [hk2]
        first
          | refine CallG.on (g := [(1000000, 1000000), (501, 501)]) (hr) (by decide) (by simp) (by simp) (by simp [Sg.bk]) ?_
          | refine CallN.on (g := [(1000000, 1000000), (501, 501)]) (hr) (by decide) (by simp) (by simp) (by simp [Sg.bk]) ?_
          | refine CallGB.on (g := [(1000000, 1000000), (501, 501)]) (hr) (by decide) (by simp) (by simp) (by simp [Sg.bk]) ?_
        simp -dsimp
        refine retE_c (by simp -dsimp) (by simp)
    · obtain ⟨k, rfl⟩ : ∃ k, ks = [k] := List.length_eq_one_iff.1 (by have := kidsI_ex; omega)
      have hp : prT (.mk oEx x y [k]) = 69 :: ltr x :: 32 :: prT k := by rw [prT]; simp [oNo_ne, prTL]
      rw [hp]
      have hw := ws_spec fresh l [69, ltr x, 32] (by simp; omega)
      have hnk : nodesL [k] = nodesF k := by simp [nodesL]
      obtain ⟨o', x', y', ks', hk, hr⟩ := rec1 k (by simp) false (l ++ [69, ltr x, 32]) (by simp; omega)
      have c1 := ba_app [69] [ltr x]
      have c2 := ba_app [69, ltr x] [32]
      simp only [List.cons_append, List.nil_append] at c1 c2
      simp only [List.append_assoc, List.cons_append, List.nil_append] at hr
      unfold bM at hw
      simp only [bA, Bool.false_eq_true, if_false] at hr
      have hk2 : ftC k = [.v (.string o'), eI x', eI y', .sl .any 4 (ks'.map ftC)] := by rw [hk, ftC_mk]
      generalize prT k = Tk at *
      generalize ltr x = X at *
      cases fresh
      all_goals
        simp only [bA, if_true, Bool.false_eq_true, if_false] at hw ⊢
        simp -dsimp
        first
          | refine CallG.by (lx) ?_
          | refine CallGE.by (lx) ?_
          | refine CallGB.by (lx) ?_
        simp -dsimp [c1, c2]
        first
          | refine CallG.on (g := [(1000000, 1000000), (501, 501)]) (hw) (by decide) (by simp) (by simp) (by simp [Sg.bk]) ?_
          | refine CallN.on (g := [(1000000, 1000000), (501, 501)]) (hw) (by decide) (by simp) (by simp) (by simp [Sg.bk]) ?_
          | refine CallGB.on (g := [(1000000, 1000000), (501, 501)]) (hw) (by decide) (by simp) (by simp) (by simp [Sg.bk]) ?_
        simp -dsimp [hk2]
        first
          | refine CallG.on (g := [(1000000, 1000000), (501, 501)]) (hr) (by decide) (by simp) (by simp) (by simp [Sg.bk]) ?_
          | refine CallN.on (g := [(1000000, 1000000), (501, 501)]) (hr) (by decide) (by simp) (by simp) (by simp [Sg.bk]) ?_
          | refine CallGB.on (g := [(1000000, 1000000), (501, 501)]) (hr) (by decide) (by simp) (by simp) (by simp [Sg.bk]) ?_
        simp -dsimp
        refine retE_c (by simp -dsimp) (by simp)
    · obtain ⟨k, k2, rfl⟩ : ∃ k l, ks = [k, l] := by
        have h : ks.length = 2 := by have := kidsI_an; omega
        match ks, h with
        | [k, l], _ => exact ⟨k, l, rfl⟩
      have hp : prT (.mk oAn x y [k, k2]) = 40 :: (prT k ++ 38 :: (prT k2 ++ [41])) := by rw [prT]; simp [oNo_ne, prTL]
      rw [hp]
      have hnk : nodesL [k, k2] = nodesF k + nodesF k2 := by simp [nodesL]
      have t1 := prT_len k
      have t2 := prT_len k2
      have hw := ws_spec fresh l [40] (by simp; omega)
      obtain ⟨o', x', y', ks', hk, hr⟩ := rec1 k (by simp) false (l ++ [40]) (by simp; omega)
      have hw2 := ws_spec false (l ++ [40] ++ prT k) [38] (by simp; omega)
      obtain ⟨o'', x'', y'', ks'', hk', hr2⟩ := rec1 k2 (by simp) false (l ++ [40] ++ prT k ++ [38]) (by simp; omega)
      have hw3 := ws_spec false (l ++ [40] ++ prT k ++ [38] ++ prT k2) [41] (by simp; omega)
      unfold bM at hw hw2 hw3
      simp only [bA, Bool.false_eq_true, if_false] at hr hr2 hw2 hw3
      have hk3 : ftC k = [.v (.string o'), eI x', eI y', .sl .any 4 (ks'.map ftC)] := by rw [hk, ftC_mk]
      have hk4 : ftC k2 = [.v (.string o''), eI x'', eI y'', .sl .any 4 (ks''.map ftC)] := by rw [hk', ftC_mk]
      generalize prT k = Tk at *
      generalize prT k2 = Tk2 at *
      simp only [List.append_assoc, List.cons_append, List.nil_append] at hr hr2 hw2 hw3
      cases fresh
      all_goals
        simp only [bA, if_true, Bool.false_eq_true, if_false] at hw ⊢
        simp -dsimp
        first
          | refine CallG.on (g := [(1000000, 1000000), (501, 501)]) (hw) (by decide) (by simp) (by simp) (by simp [Sg.bk]) ?_
          | refine CallN.on (g := [(1000000, 1000000), (501, 501)]) (hw) (by decide) (by simp) (by simp) (by simp [Sg.bk]) ?_
          | refine CallGB.on (g := [(1000000, 1000000), (501, 501)]) (hw) (by decide) (by simp) (by simp) (by simp [Sg.bk]) ?_
        simp -dsimp [hk3]
        first
          | refine CallG.on (g := [(1000000, 1000000), (501, 501)]) (hr) (by decide) (by simp) (by simp) (by simp [Sg.bk]) ?_
          | refine CallN.on (g := [(1000000, 1000000), (501, 501)]) (hr) (by decide) (by simp) (by simp) (by simp [Sg.bk]) ?_
          | refine CallGB.on (g := [(1000000, 1000000), (501, 501)]) (hr) (by decide) (by simp) (by simp) (by simp [Sg.bk]) ?_
        simp -dsimp
        first
          | refine CallG.on (g := [(1000000, 1000000), (501, 501)]) (hw2) (by decide) (by simp) (by simp) (by simp [Sg.bk]) ?_
          | refine CallN.on (g := [(1000000, 1000000), (501, 501)]) (hw2) (by decide) (by simp) (by simp) (by simp [Sg.bk]) ?_
          | refine CallGB.on (g := [(1000000, 1000000), (501, 501)]) (hw2) (by decide) (by simp) (by simp) (by simp [Sg.bk]) ?_
        simp -dsimp [hk4]
        first
          | refine CallG.on (g := [(1000000, 1000000), (501, 501)]) (hr2) (by decide) (by simp) (by simp) (by simp [Sg.bk]) ?_
          | refine CallN.on (g := [(1000000, 1000000), (501, 501)]) (hr2) (by decide) (by simp) (by simp) (by simp [Sg.bk]) ?_
          | refine CallGB.on (g := [(1000000, 1000000), (501, 501)]) (hr2) (by decide) (by simp) (by simp) (by simp [Sg.bk]) ?_
        simp -dsimp
        first
          | refine CallG.on (g := [(1000000, 1000000), (501, 501)]) (hw3) (by decide) (by simp) (by simp) (by simp [Sg.bk]) ?_
          | refine CallN.on (g := [(1000000, 1000000), (501, 501)]) (hw3) (by decide) (by simp) (by simp) (by simp [Sg.bk]) ?_
          | refine CallGB.on (g := [(1000000, 1000000), (501, 501)]) (hw3) (by decide) (by simp) (by simp) (by simp [Sg.bk]) ?_
        simp -dsimp
        refine retE_c (by simp -dsimp) (by simp)
    · rw [kidsI_none h] at hkn
      omega
theorem print_spec (f : FT) (hs : shapedF f = true) (hn : nodesF f ≤ 20000) : PCall Tryz.prog 56 [.agg (ftC f)] (.t .fz (.v (.string ⟨(prT f).toArray⟩))) [] := by
  obtain ⟨o, a, b, ks, rfl⟩ := ft_split f
  obtain ⟨⟨x, y, rfl, rfl, _, _⟩, hkn, _⟩ := shaped_parts hs
  have hw := write_spec _ o x y ks (Nat.le_refl _) hs true [] (by simp; omega)
  have hne : prT (.mk o x y ks) ≠ [] := by
    rw [prT]
    split
    · simp
    · split
      · simp
      · split
        · simp
        · split <;> simp
  rw [List.nil_append] at hw
  have hw2 := ecall_arg0 (p := .agg [.t .fz (.v (.string o)), pI x, pI y, .t .ro (.sl .any 4 (ks.map ftC))]) hw fun w φ S v h => by
    cases h with
    | agg vs hsz hrep =>
      refine .t (.agg vs (by simpa using hsz) fun j u hu => ?_)
      rcases j with _ | _ | _ | _ | j
      · have := hrep 0 _ rfl
        simp at hu
        subst hu
        have := this.t_inv.v_inv
        simp only at this ⊢
        rw [this]
        exact .v _
      · have := hrep 1 _ rfl
        simp at hu
        subst hu
        have := this.t_inv.v_inv
        simp only [Nat.zero_add] at this ⊢
        rw [this]
        exact .v _
      · have := hrep 2 _ rfl
        simp at hu
        subst hu
        have := this.t_inv.v_inv
        simp only [Nat.zero_add, Nat.reduceAdd] at this ⊢
        rw [this]
        exact .v _
      · have := hrep 3 _ rfl
        simp at hu
        subst hu
        exact this.t_inv
      · simp at hu
  have hst := string_spec (prT (.mk o x y ks)) hne
  generalize prT (.mk o x y ks) = T at *
  rw [ftC_mk]
  unfold bM at *
  simp only [bA, if_true] at hw2
  refine pcall_wpS [2] Tryz.func56 rfl (by kernel_rfl) ?_
  simp -dsimp
  refine stop_adoptM 3 1 501 5 1 (by simp; exact ⟨rfl, rfl⟩) (by simp; rfl) (by simp) (by simp) ?_
  refine stop_go ?_
  have hb0 : bys [] = [] := rfl
  rw [hb0] at hw2
  simp -dsimp
  first
    | refine CallG.on (g := [(3, 1000000), (501, 501)]) (hw2) (by decide) (by simp) (by simp) (by simp [Sg.bk]) ?_
    | refine CallN.on (g := [(3, 1000000), (501, 501)]) (hw2) (by decide) (by simp) (by simp) (by simp [Sg.bk]) ?_
    | refine CallGB.on (g := [(3, 1000000), (501, 501)]) (hw2) (by decide) (by simp) (by simp) (by simp [Sg.bk]) ?_
  simp -dsimp
  first
    | refine CallG.on (g := [(3, 1000000), (501, 501)]) (hst) (by decide) (by simp) (by simp) (by simp [Sg.bk]) ?_
    | refine CallN.on (g := [(3, 1000000), (501, 501)]) (hst) (by decide) (by simp) (by simp) (by simp [Sg.bk]) ?_
    | refine CallGB.on (g := [(3, 1000000), (501, 501)]) (hst) (by decide) (by simp) (by simp) (by simp [Sg.bk]) ?_
  simp -dsimp
  refine retP_c ?_
  simp -dsimp
def prnF (f : FT) : TL := if formOk f then .tup [.v (.string ⟨(prT f).toArray⟩), eI 0] else .tup [.v (.string ByteArray.empty), eI 2]
theorem Print_spec (f : FT) : PCall Tryz.prog 25 [.agg (ftC f)] (.t .fz (prnF f)) [] := by
  have h := valid_form f
  have hd : formOk f = true → PCall Tryz.prog 56 [.agg (ftC f)] (.t .fz (.v (.string ⟨(prT f).toArray⟩))) [] := fun h => by
    unfold formOk at h
    simp only [Bool.and_eq_true, decide_eq_true_eq] at h
    exact print_spec f h.2 (by omega)
  have hF : prnF f = if formOk f then .tup [.v (.string ⟨(prT f).toArray⟩), eI 0] else .tup [.v (.string ByteArray.empty), eI 2] := rfl
  obtain ⟨o, a, b, ks, hk⟩ := ft_split f
  rw [hk, ftC_mk, ← hk] at h hd
  rw [hk, ftC_mk, ← hk]
  refine pcall_wp _ Tryz.func25 rfl (by kernel_rfl) rfl ?_
  cases hv : formOk f
  · rw [hv] at h hF
    simp only [Bool.false_eq_true, if_false] at hF
    have he : (ByteArray.mk #[]) = ByteArray.empty := rfl
    simp -dsimp
    first
      | refine CallG.by (h) ?_
      | refine CallGE.by (h) ?_
      | refine CallGB.by (h) ?_
    simp -dsimp [he]
    refine retP_c ?_
    simp -dsimp [hF, he]
  · rw [hv] at h hF
    have hd := hd hv
    generalize prT f = d at *
    simp -dsimp
    first
      | refine CallG.by (h) ?_
      | refine CallGE.by (h) ?_
      | refine CallGB.by (h) ?_
    simp -dsimp
    first
      | refine CallG.by (hd) ?_
      | refine CallGE.by (hd) ?_
      | refine CallGB.by (hd) ?_
    simp -dsimp
    refine retP_c ?_
    simp -dsimp [hF]
end Go.Proofs.YtnikonhkbldnnaaGreatDoor
