import Derived.Test.YtpcmmjmoiplhjaaGreatDoorFB2
/- FB3: text; append to a file; what a disk reads. -/
set_option linter.unusedVariables false
set_option linter.unusedSimpArgs false
set_option maxRecDepth 20000
namespace Go.Proofs.YtpcmmjmoiplhjaaGreatDoor
open Go Go.PS
attribute [-simp] isKeyK List.map_take
@[simp] theorem g_z8 : zeroU8 Tryz.prog 5 = true := by kernel_rfl
/-- Lines, each with its end. -/
def txt : List (List UInt8) → List UInt8
  | [] => []
  | l :: r => l ++ 10 :: txt r
theorem txt_snoc (L : List (List UInt8)) (l : List UInt8) : txt (L ++ [l]) = txt L ++ (l ++ [10]) := by
  induction L with
  | nil => simp [txt]
  | cons x L ih => simp [txt, ih]
theorem bys_app (a b : List UInt8) : bys a ++ bys b = bys (a ++ b) := by simp [bys]
theorem text_spec (L : List (List UInt8)) (hL : (txt L).length ≤ 1000000) : PCall Tryz.prog 40 [.sl .any 1 (L.map fun l => [sV l])] (.t .fz (.sl .any 1 (bys (txt L)))) [] := by
  refine pcall_fzrow (ty := 5) (k := .fz) ?_ fun e he x hx => by
    obtain ⟨c, _, rfl⟩ := List.mem_map.1 he
    simp at hx
    exact ⟨_, hx⟩
  refine pcall_sl 0 rfl call40 fun hlen => ?_
  simp only [List.length_map] at hlen
  refine pcall_wp _ Tryz.func40 rfl (by kernel_rfl) rfl ?_
  simp -dsimp
  refine lg_adoptT 3 120 5 1 (by simp; rfl) (by simp) ?_
  refine wk_loop (fun i : Nat => ⟨[(8, pI i), (7, pI L.length), (6, .t .ro (.sl .any 1 (L.map fun l => [sV l]))), (3, .osl 120)], [(120, .row 5 1 .fz (bys (txt (L.take i))))]⟩) (fun i => i ≤ L.length) (fun i => L.length - i) 0
    (le_of (by simp) (by simp [txt, bys])) (by simp) fun i hi => ?_
  simp -dsimp
  refine condX_dec (fun h => ?_) (fun h => ?_)
  · have hw := wr (n := (i : Int) + 1) (by omega) (by omega)
    have hil : (i : Int) < L.length := by omega
    have ht : L.take (i + 1) = L.take i ++ [L[i]] := List.take_succ_eq_append_getElem h
    have hs := txt_snoc (L.take i) L[i]
    rw [← ht] at hs
    have hle : (txt (L.take (i + 1))).length ≤ (txt L).length := by
      have : txt L = txt (L.take (i + 1)) ++ txt (L.drop (i + 1)) := by
        have key : ∀ (a b : List (List UInt8)), txt (a ++ b) = txt a ++ txt b := fun a b => by
          induction a with
          | nil => rfl
          | cons x a ih => simp [txt, ih]
        rw [← key, List.take_append_drop]
      rw [this]
      simp
    rw [hs] at hle
    simp only [List.length_append, List.length_cons, List.length_nil] at hle
    generalize txt (L.take i) = T at *
    generalize hLi : L[i] = l at *
    have b1 : T.length + l.length ≤ 140737488355328 := by omega
    have b2 : T.length + l.length + 1 ≤ 140737488355328 := by omega
    have e1 : bys T ++ bys l = bys (T ++ l) := bys_app T l
    have e2 : bys (T ++ l) ++ [[TL.v (.int .u8 10)]] = bys (T ++ (l ++ [10])) := by simp [bys]
    simp -dsimp [hil, h, hLi, b1, b2, e1, e2, hw]
    refine LoopP_next (i + 1) (le_of (by simp) (by simp [hs])) h (by omega)
  · have : i = L.length := by omega
    subst this
    simp -dsimp
    exact retP_own 120 (by simp; rfl) (by simp) (by simp) (by simp) (by simp)
end Go.Proofs.YtpcmmjmoiplhjaaGreatDoor
