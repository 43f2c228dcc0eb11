import Derived.Test.YtnikonhkbldnnaaGreatDoorLR2
/- LL1: the laws of LikeWins and LikeAnswers. -/
set_option linter.unusedVariables false
set_option linter.unusedSimpArgs false
set_option maxRecDepth 20000
namespace Go.Proofs.YtnikonhkbldnnaaGreatDoor
open Go Go.PS
attribute [-simp] isKeyK List.map_take
theorem nil_argT {P : Program} {f : Nat} {args : List TL} {r : PV} {Mr : List (Nat × Res)} (i : Nat) (h : PCall P f args r Mr) (hi : args[i]? = some (eIs [])) : PCall P f (args.set i (.v (.slice none 0 0))) r Mr :=
  pcall_arg i h hi fun w S v h => nil_any' w S v h
theorem answ_back {g h a b : List Int} {k : Int} (hg : isgB g = true) (hh : isgB h = true) (hk : 0 ≤ k ∧ k ≤ 3) (hl : a.length = b.length ∧ a.length ≤ 3) (ha : ndsB g.length a = true) (hb : ndsB h.length b = true) :
    PCall Tryz.prog 18 [eIs g, eIs h, eI k, eIs a, eIs b] (pB (winN k.toNat (townOf g) (townOf h) (townOf a) (townOf b))) [] := by
  have hw := ranswer_spec k.toNat (by omega) (townOf g) (townOf h) (townOf a) (townOf b) (town_tow hg) (town_tow hh) (by rw [town_len, town_len]; omega) (by rw [town_len]; omega) fun i hi => by
    rw [town_len] at hi
    have h1 := nds_at.1 ha i hi
    have h2 := nds_at.1 hb i (by omega)
    rw [town_get, town_get, town_len, town_len]
    omega
  rw [eNs, eNs, eNs, eNs, town_back hg, town_back hh, nds_back ha, nds_back hb, show ((k.toNat : Nat) : Int) = k by omega] at hw
  exact hw
theorem take8 (a b : List Int) : decide ((a.take 8).length = (b.take 8).length ∧ (a.take 8).length ≤ 3) = decide (a.length = b.length ∧ a.length ≤ 3) ∧ (a.length ≤ 3 → a.take 8 = a) := by
  constructor
  · rw [decide_eq_decide, List.length_take, List.length_take]
    omega
  · intro h
    exact List.take_of_length_le (by omega)
end Go.Proofs.YtnikonhkbldnnaaGreatDoor
