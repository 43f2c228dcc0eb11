import Derived.Test.YtnikonhkbldnnaaGreatDoorLB21
/- LB22: renamings, Same, Turns. -/
set_option linter.unusedVariables false
set_option linter.unusedSimpArgs false
set_option maxRecDepth 20000
namespace Go.Proofs.YtnikonhkbldnnaaGreatDoor
open Go Go.PS
attribute [-simp] isKeyK List.map_take
theorem sameR_spec (g h : List Nat) (hg : Tow 6 g) (hh : Tow 6 h) : ECall Tryz.prog 60 [.t .ro (eNs g), .t .ro (eNs h), .clo 61 [.ptr 1000009 0]] [(1000009, .blk 22 [lvN none])] (.tup []) [(1000009, .blk 22 [lvN (namesOf g h).head?])] := by
  refine ecall_wp Tryz.func60 rfl (by kernel_rfl) ?_
  have hNO : namesOf g h = if g.length = h.length then namesN g h g.length [] else [] := rfl
  by_cases hl : g.length = h.length
  rotate_left
  · have hne : ((g.length : Int) != (h.length : Int)) = true := by
      rw [bne_iff_ne]
      omega
    rw [if_neg hl] at hNO
    simp -dsimp [hne]
    refine retE_c (by simp -dsimp [hNO]) (by simp [hNO])
  have hne : ((g.length : Int) != (h.length : Int)) = false := by
    rw [bne_eq_false_iff_eq]
    omega
  rw [if_pos hl] at hNO
  have hgr := sameG_spec g h hg hh g.length [] (by simp) (fun u hu => by simp at hu)
  rw [← hNO, smM] at hgr
  generalize namesOf g h = N at *
  have hgr' := ecall_adopt (M := [(1000000, .blk 22 [.t .fz (.v (.slice none 0 0))]), (1000001, .blk 66 [.t .ro (eNs g)]), (1000002, .blk 103 [.clo 61 [.ptr 1000009 0]]), (1000003, .blk 66 [.t .ro (eNs h)]),
    (1000004, .blk 33 [.clo 93 [.ptr 1000000 0, .ptr 1000001 0, .ptr 1000002 0, .ptr 1000003 0, .ptr 1000004 0]]), (1000009, .blk 22 [lvN none])]) 1000000 0 1001 22 3 1 (k := .fz) (cs := [.t .fz (.v (.slice none 0 0))]) hgr (fun q => by
      by_cases h1 : q = 1000000
      · subst h1; simp
      · by_cases h2 : q = 1001
        · subst h2; simp
        · simp [h1, h2, Ne.symm h1, Ne.symm h2]) (by simp) rfl (by simp) (by decide) (by decide) (by simp) (by simp)
  clear hgr
  generalize N.head? = o at hgr' ⊢
  cases o
  all_goals
    simp -dsimp [hne]
    first
      | refine CallG.on (g := [(6, 1000000), (3, 1000001), (5, 1000002), (4, 1000003), (7, 1000004), (120, 1001), (1000009, 1000009)]) (hgr') (by decide) (by simp) (by simp) (by simp [Sg.bk]) ?_
      | refine CallN.on (g := [(6, 1000000), (3, 1000001), (5, 1000002), (4, 1000003), (7, 1000004), (120, 1001), (1000009, 1000009)]) (hgr') (by decide) (by simp) (by simp) (by simp [Sg.bk]) ?_
      | refine CallGB.on (g := [(6, 1000000), (3, 1000001), (5, 1000002), (4, 1000003), (7, 1000004), (120, 1001), (1000009, 1000009)]) (hgr') (by decide) (by simp) (by simp) (by simp [Sg.bk]) ?_
    simp -dsimp
    refine retE_c (by simp -dsimp) (by simp)
def sameF (g h : List Int) : TL := if isgB g && isgB h then (match (namesOf (townOf g) (townOf h)).head? with
  | some l => .tup [eNs l, eI 0]
  | none => .tup [nilT, eI 4]) else .tup [nilT, eI 2]
theorem names_ne {g h : List Nat} (hp : 1 ≤ g.length) {l : List Nat} (hl : (namesOf g h).head? = some l) : l.length = g.length := by
  have hm := List.mem_of_mem_head? hl
  unfold namesOf at hm
  split at hm
  · have := (names_mem _ _ _).1 hm
    simpa using this.1
  · simp at hm
theorem same_spec (g h : List Int) : PCall Tryz.prog 29 [eIs g, eIs h] (.t .fz (sameF g h)) [] := by
  have hbo := both_spec g h
  refine pcall_wp _ Tryz.func29 rfl (by kernel_rfl) rfl ?_
  rw [bothF] at hbo
  have hF : sameF g h = if isgB g && isgB h then (match (namesOf (townOf g) (townOf h)).head? with
    | some l => .tup [eNs l, eI 0]
    | none => .tup [nilT, eI 4]) else .tup [nilT, eI 2] := rfl
  cases ht : isgB g <;> cases hg : isgB h
  all_goals
    rw [ht, hg] at hbo hF
    simp only [if_true, Bool.false_eq_true, if_false, Bool.and_true, Bool.and_false, Bool.true_and, Bool.false_and, Bool.and_self, nilT] at hbo hF
  · simp -dsimp
    first
      | refine CallG.by (hbo) ?_
      | refine CallGE.by (hbo) ?_
      | refine CallGB.by (hbo) ?_
    simp -dsimp
    refine retP_c ?_
    simp -dsimp [hF]
  · simp -dsimp
    first
      | refine CallG.by (hbo) ?_
      | refine CallGE.by (hbo) ?_
      | refine CallGB.by (hbo) ?_
    simp -dsimp
    refine retP_c ?_
    simp -dsimp [hF]
  · simp -dsimp
    first
      | refine CallG.by (hbo) ?_
      | refine CallGE.by (hbo) ?_
      | refine CallGB.by (hbo) ?_
    simp -dsimp
    refine retP_c ?_
    simp -dsimp [hF]
  · have hr := sameR_spec (townOf g) (townOf h) (town_tow ht) (town_tow hg)
    rw [show eNs (townOf g) = eIs g by rw [eNs, town_back ht], show eNs (townOf h) = eIs h by rw [eNs, town_back hg]] at hr
    have hln := fun l => names_ne (g := townOf g) (h := townOf h) (town_tow ht).pos (l := l)
    have hpos := (town_tow ht).pos
    generalize (namesOf (townOf g) (townOf h)).head? = o at *
    cases o with
    | none =>
      simp only at hF
      simp -dsimp
      first
        | refine CallG.by (hbo) ?_
        | refine CallGE.by (hbo) ?_
        | refine CallGB.by (hbo) ?_
      simp -dsimp
      first
        | refine CallG.on (g := [(9, 1000009)]) (hr) (by decide) (by simp) (by simp) (by simp [Sg.bk]) ?_
        | refine CallN.on (g := [(9, 1000009)]) (hr) (by decide) (by simp) (by simp) (by simp [Sg.bk]) ?_
        | refine CallGB.on (g := [(9, 1000009)]) (hr) (by decide) (by simp) (by simp) (by simp [Sg.bk]) ?_
      simp -dsimp
      refine retP_c ?_
      simp -dsimp [hF]
    | some l =>
      simp only at hF
      have hl := hln l rfl
      match l, hl with
      | [], hl => simp at hl; omega
      | y :: l, hl =>
        simp -dsimp
        first
          | refine CallG.by (hbo) ?_
          | refine CallGE.by (hbo) ?_
          | refine CallGB.by (hbo) ?_
        simp -dsimp
        first
          | refine CallG.on (g := [(9, 1000009)]) (hr) (by decide) (by simp) (by simp) (by simp [Sg.bk]) ?_
          | refine CallN.on (g := [(9, 1000009)]) (hr) (by decide) (by simp) (by simp) (by simp [Sg.bk]) ?_
          | refine CallGB.on (g := [(9, 1000009)]) (hr) (by decide) (by simp) (by simp) (by simp [Sg.bk]) ?_
        simp -dsimp
        refine retP_c ?_
        simp -dsimp [hF]
def turnsF (g : List Int) : TL := if isgB g then .tup [eI ((namesOf (townOf g) (townOf g)).length : Nat), eI 0] else .tup [eI 0, eI 2]
end Go.Proofs.YtnikonhkbldnnaaGreatDoor
