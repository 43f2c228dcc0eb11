import Derived.Test.YtnikonhkbldnnaaDoorLB44
/- LB45: parse. -/
set_option linter.unusedVariables false
set_option linter.unusedSimpArgs false
set_option maxRecDepth 20000
namespace Go.Proofs.YtnikonhkbldnnaaDoor
open Go Go.PS
attribute [-simp] isKeyK List.map_take
theorem parse_no (s : List UInt8) (hs : s.length < 100000) (h : pF 40 s = none) : ECall Tryd.prog 38 [.t .fz (sV s)] [] (.tup [.agg zC, pB false]) [] := by
  obtain ⟨x, hx⟩ := (formula_spec 40 (by omega) s hs).2 h
  unfold pM zC at *
  refine ecall_defer (N := 21) (args2 := [.t .fz (sV s), .undef, .ptr 1000001 0, .ptr 1000002 0, .undef, .undef, .undef, .undef, .undef, .undef, .undef, .undef, .undef, .undef, .undef, .undef, .undef, .undef, .undef, .undef, .undef]) (s1 := ⟨[(3, .ptr 3 0), (2, .ptr 2 0), (0, .t .fz (sV s))], [(3, .blk 4 [pB false]), (2, .blk 27 zC)]⟩) Tryd.func38 rfl (by kernel_rfl) (by simp) (wpk_sound _ _ _ ?_) rfl rfl rfl rfl rfl rfl rfl rfl rfl (by omega)
    [(2, 1000001), (3, 1000002)] (by decide) rfl ?_ (by simp [Sg.bk]) (M2 := [(1000001, .blk 27 zC), (1000002, .blk 4 [pB false])]) (by rfl) (by rfl) (by omega) (by omega) call53 (K := fun e s' => e = .panic wrC ∧ getT s'.T 2 = .ptr 1000001 0 ∧ getT s'.T 3 = .ptr 1000002 0 ∧ getM s'.M 1000001 = .blk 27 zC ∧ getM s'.M 1000002 = .blk 4 [pB false]) (wpkS_sound [3] _ _ _ ?_) ?_ ?_
  · unfold zC
    simp -dsimp
  · unfold zC
    simp
  · unfold zC
    simp -dsimp
    refine cw_panicsG (l1 := [_]) (o := _) (l2 := [_]) rfl ?_
    simp -dsimp
    refine panK_c (g := [(8, 1000000)]) hx rfl rfl rfl (by decide) rfl (by decide) (by simp) (by simp) (by simp [Sg.bk]) ⟨rfl, ?_, ?_, ?_, ?_⟩
    all_goals simp [retE, StL.kills, backM]
  · rintro e s' ⟨rfl, h2, h3, hm1, hm2⟩
    unfold zC at *
    refine ⟨_, _, [(1000001, 1000001), (1000002, 1000002)], _, _, rfl, clos_pan, rfl, by decide, by rfl, ?_, by simp [Sg.bk], ?_⟩
    · simp [hm1, hm2, zC]
    · simp [retE, StL.kills, backM, h2, h3, zC]
  · simp [retE]
def paD : List (List Nat) := [[], [], [1], [1, 2], [1, 2, 3], [1, 2, 3, 4], [1, 2, 3, 4, 5], [1, 2, 3, 4, 5, 6], [1, 2, 3, 4, 5, 6, 7], [1, 2, 3, 4, 5, 6, 7, 8], [0, 1, 2, 3, 4, 5, 6, 7, 8], [0, 1, 2, 3, 4, 5, 6, 7, 8, 9, 10]]
def paT : List Nat := [0, 1, 2, 3, 4, 5, 6, 7, 8, 9, 10, 11]
def paP : List (List (Option Bool)) := [[some false, none, none, none, none, none, none, none, none, none, some false, some false], [none, some false, some false, some false, some false, some false, some false, some false, some false, some false, some false, some false], [none, some true, some false, some false, some false, some false, some false, some false, some false, some false, some false, some false], [none, some true, some true, some false, some false, some false, some false, some false, some false, some false, some false, some false], [none, some true, some true, some true, some false, some false, some false, some false, some false, some false, some false, some false], [none, some true, some true, some true, some true, some false, some false, some false, some false, some false, some false, some false], [none, some true, some true, some true, some true, some true, some false, some false, some false, some false, some false, some false], [none, some true, some true, some true, some true, some true, some true, some false, some false, some false, some false, some false], [none, some true, some true, some true, some true, some true, some true, some true, some false, some false, some false, some false], [none, some true, some true, some true, some true, some true, some true, some true, some true, some false, none, some false], [some true, some true, some true, some true, some true, some true, some true, some true, some true, none, some false, some false], [some true, some true, some true, some true, some true, some true, some true, some true, some true, some true, some true, some false]]
set_option maxHeartbeats 1000000 in
theorem parse_all (s : List UInt8) (hs : s.length < 100000) (f : Fo) (o : ByteArray) (a b : Int) (ks : List FT) (hz : ftOf f = .mk o a b ks) (ok : Bool) (hok : formOk (.mk o a b ks) = ok) (h : pF 40 s = some (f, [])) : ECall Tryd.prog 38 [.t .fz (sV s)] [] (.tup [.agg [.t .fz (.v (.string o)), pI a, pI b, .t .ro (.sl .any 4 (ks.map ftC))], pB ok]) [] := by
  have hx := (formula_spec 40 (by omega) s hs).1 f [] h
  unfold FoY at hx
  have hv := valid_form (ftOf f)
  rw [hz] at hx hv
  rw [ftC_mk] at hv
  rw [hok] at hv
  unfold pM at *
  simp only [ftP] at hx
  refine ecall_defer (N := 21) (args2 := [.t .fz (sV s), .undef, .ptr 1000001 0, .ptr 1000002 0, .undef, .undef, .undef, .undef, .undef, .undef, .undef, .undef, .undef, .undef, .undef, .undef, .undef, .undef, .undef, .undef, .undef]) (s1 := ⟨[(3, .ptr 3 0), (2, .ptr 2 0), (0, .t .fz (sV s))], [(3, .blk 4 [pB false]), (2, .blk 27 zC)]⟩) Tryd.func38 rfl (by kernel_rfl) (by simp) (wpk_sound _ _ _ ?_) rfl rfl rfl rfl rfl rfl rfl rfl rfl (by omega)
    [(2, 1000001), (3, 1000002)] (by decide) rfl ?_ (by simp [Sg.bk]) (M2 := [(1000001, .blk 27 zC), (1000002, .blk 4 [pB false])]) (by rfl) (by rfl) (by omega) (by omega) call53 (K := fun e s' => e = .ret ∧ getT s'.T 2 = .ptr 1000001 0 ∧ getT s'.T 3 = .ptr 1000002 0 ∧ getM s'.M 1000001 = .blk 27 [.t .fz (.v (.string o)), pI a, pI b, .t .ro (.sl .any 4 (ks.map ftC))] ∧ getM s'.M 1000002 = .blk 4 [pB ok]) (wpk_sound _ _ _ ?_) ?_ ?_
  · unfold zC
    simp -dsimp
  · unfold zC
    simp
  · unfold zC
    simp -dsimp
    first
      | refine CallG.on (g := [(8, 1000000)]) (hx) (by decide) (by simp) (by simp) (by simp [Sg.bk]) ?_
      | refine CallN.on (g := [(8, 1000000)]) (hx) (by decide) (by simp) (by simp) (by simp [Sg.bk]) ?_
      | refine CallGB.on (g := [(8, 1000000)]) (hx) (by decide) (by simp) (by simp) (by simp [Sg.bk]) ?_
    simp -dsimp
    refine wk_dagS (fun bs => ⟨[(11, cnd (bs.getD 0 false) (.agg [.t .fz (.v (.string o)), pI a, pI b, .t .ro (.sl .any 4 (ks.map ftC))])), (12, cnd (bs.getD 1 false) (.ptr 8 0)), (13, cnd (bs.getD 2 false) (.ptr 8 0)), (14, cnd (bs.getD 3 false) (.ptr 8 0)), (15, cnd (bs.getD 4 false) (.t .fz (sV []))), (16, cnd (bs.getD 5 false) (pB true)), (17, cnd (bs.getD 6 false) (pB true)), (18, cnd (bs.getD 7 false) (.agg [.t .fz (.v (.string o)), pI a, pI b, .t .ro (.sl .any 4 (ks.map ftC))])), (19, cnd (bs.getD 8 false) (pB ok)), (20, cnd (bs.getD 9 false) (pB ok)), (2, .ptr 1000001 0), (3, .ptr 1000002 0), (4, .ptr 8 0)],
      [(1000001, .blk 27 [.t .fz (.v (.string o)), pI a, pI b, .t .ro (.sl .any 4 (ks.map ftC))]), (1000002, .blk 4 [if bs.getD 11 false then pB ok else pB false]), (8, .blk 99 [.t .fz (sV [])])]⟩) paD paT paP mixed (by kernel_rfl) (le_of (by simp) (by simp)) ?_ ?_
    · unfold paP
      simp -dsimp [-Bool.forall_bool]
      repeat' first
        | intro _
        | with_reducible apply And.intro
        | (refine le_of (by simp) ?_
           simp; done)
        | (refine CallG.by hv ?_
           simp -dsimp)
        | (rename_i x
           cases x <;> simp -dsimp)
    · simp -dsimp
  · rintro e s' ⟨rfl, h2, h3, hm1, hm2⟩
    refine ⟨_, _, [(1000001, 1000001), (1000002, 1000002)], [(1000001, .blk 27 [.t .fz (.v (.string o)), pI a, pI b, .t .ro (.sl .any 4 (ks.map ftC))]), (1000002, .blk 4 [pB ok])], _, rfl, clos_ret, rfl, by decide, by rfl, ?_, by simp [Sg.bk], ?_⟩
    · simp [hm1, hm2]
    · simp [retE, StL.kills, backM, h2, h3]
  · simp [retE]
set_option maxHeartbeats 1000000 in
theorem parse_rest (s : List UInt8) (hs : s.length < 100000) (f : Fo) (c : UInt8) (r : List UInt8) (o : ByteArray) (a b : Int) (ks : List FT) (hz : ftOf f = .mk o a b ks) (ok : Bool) (hok : formOk (.mk o a b ks) = ok) (h : pF 40 s = some (f, (c :: r))) : ECall Tryd.prog 38 [.t .fz (sV s)] [] (.tup [.agg [.t .fz (.v (.string o)), pI a, pI b, .t .ro (.sl .any 4 (ks.map ftC))], pB false]) [] := by
  have hx := (formula_spec 40 (by omega) s hs).1 f (c :: r) h
  unfold FoY at hx
  have hv := valid_form (ftOf f)
  rw [hz] at hx hv
  rw [ftC_mk] at hv
  rw [hok] at hv
  unfold pM at *
  simp only [ftP] at hx
  refine ecall_defer (N := 21) (args2 := [.t .fz (sV s), .undef, .ptr 1000001 0, .ptr 1000002 0, .undef, .undef, .undef, .undef, .undef, .undef, .undef, .undef, .undef, .undef, .undef, .undef, .undef, .undef, .undef, .undef, .undef]) (s1 := ⟨[(3, .ptr 3 0), (2, .ptr 2 0), (0, .t .fz (sV s))], [(3, .blk 4 [pB false]), (2, .blk 27 zC)]⟩) Tryd.func38 rfl (by kernel_rfl) (by simp) (wpk_sound _ _ _ ?_) rfl rfl rfl rfl rfl rfl rfl rfl rfl (by omega)
    [(2, 1000001), (3, 1000002)] (by decide) rfl ?_ (by simp [Sg.bk]) (M2 := [(1000001, .blk 27 zC), (1000002, .blk 4 [pB false])]) (by rfl) (by rfl) (by omega) (by omega) call53 (K := fun e s' => e = .ret ∧ getT s'.T 2 = .ptr 1000001 0 ∧ getT s'.T 3 = .ptr 1000002 0 ∧ getM s'.M 1000001 = .blk 27 [.t .fz (.v (.string o)), pI a, pI b, .t .ro (.sl .any 4 (ks.map ftC))] ∧ getM s'.M 1000002 = .blk 4 [pB false]) (wpk_sound _ _ _ ?_) ?_ ?_
  · unfold zC
    simp -dsimp
  · unfold zC
    simp
  · unfold zC
    simp -dsimp
    first
      | refine CallG.on (g := [(8, 1000000)]) (hx) (by decide) (by simp) (by simp) (by simp [Sg.bk]) ?_
      | refine CallN.on (g := [(8, 1000000)]) (hx) (by decide) (by simp) (by simp) (by simp [Sg.bk]) ?_
      | refine CallGB.on (g := [(8, 1000000)]) (hx) (by decide) (by simp) (by simp) (by simp [Sg.bk]) ?_
    simp -dsimp
    refine wk_dagS (fun bs => ⟨[(11, cnd (bs.getD 0 false) (.agg [.t .fz (.v (.string o)), pI a, pI b, .t .ro (.sl .any 4 (ks.map ftC))])), (12, cnd (bs.getD 1 false) (.ptr 8 0)), (13, cnd (bs.getD 2 false) (.ptr 8 0)), (14, cnd (bs.getD 3 false) (.ptr 8 0)), (15, cnd (bs.getD 4 false) (.t .fz (sV (c :: r)))), (16, cnd (bs.getD 5 false) (pB false)), (17, cnd (bs.getD 6 false) (pB false)), (18, cnd (bs.getD 7 false) (.undef)), (19, cnd (bs.getD 8 false) (.undef)), (20, cnd (bs.getD 9 false) (pB false)), (2, .ptr 1000001 0), (3, .ptr 1000002 0), (4, .ptr 8 0)],
      [(1000001, .blk 27 [.t .fz (.v (.string o)), pI a, pI b, .t .ro (.sl .any 4 (ks.map ftC))]), (1000002, .blk 4 [if bs.getD 11 false then pB false else pB false]), (8, .blk 99 [.t .fz (sV (c :: r))])]⟩) paD paT paP mixed (by kernel_rfl) (le_of (by simp) (by simp)) ?_ ?_
    · unfold paP
      simp -dsimp [-Bool.forall_bool]
      repeat' first
        | intro _
        | with_reducible apply And.intro
        | (refine le_of (by simp) ?_
           simp; done)
        | (refine CallG.by hv ?_
           simp -dsimp)
        | (rename_i x
           cases x <;> simp -dsimp)
    · simp -dsimp
  · rintro e s' ⟨rfl, h2, h3, hm1, hm2⟩
    refine ⟨_, _, [(1000001, 1000001), (1000002, 1000002)], [(1000001, .blk 27 [.t .fz (.v (.string o)), pI a, pI b, .t .ro (.sl .any 4 (ks.map ftC))]), (1000002, .blk 4 [pB false])], _, rfl, clos_ret, rfl, by decide, by rfl, ?_, by simp [Sg.bk], ?_⟩
    · simp [hm1, hm2]
    · simp [retE, StL.kills, backM, h2, h3]
  · simp [retE]
end Go.Proofs.YtnikonhkbldnnaaDoor
