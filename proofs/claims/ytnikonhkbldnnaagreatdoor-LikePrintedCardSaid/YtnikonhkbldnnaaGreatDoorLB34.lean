import Derived.Test.YtnikonhkbldnnaaGreatDoorLB33
import Derived.Test.YtnikonhkbldnnaaGreatDoorLBA
/- LB34: all: a formula that says all of some, each once. -/
set_option linter.unusedVariables false
set_option linter.unusedSimpArgs false
set_option maxRecDepth 20000
namespace Go.Proofs.YtnikonhkbldnnaaGreatDoor
open Go Go.PS
attribute [-simp] isKeyK List.map_take TL.leaf
@[simp] theorem leafS (b : ByteArray) : TL.leaf (.v (.string b)) = true := rfl
@[simp] theorem leafI (n : Int) : TL.leaf (.v (.int .i64 n)) = true := rfl
@[simp] theorem leafB (b : Bool) : TL.leaf (.v (.bool b)) = true := rfl
@[simp] theorem leafL (t : SF) (sz : Nat) (xs : List (List TL)) : TL.leaf (.sl t sz xs) = true := rfl
@[simp] theorem leafN (a : Option Addr) (n c : Nat) : TL.leaf (.v (.slice a n c)) = true := rfl
@[simp] theorem mapStr : isStrT Tryz.prog 173 = false := by kernel_rfl
def entF (f : Fo) : Value × TL := (.string ⟨(prF f).toArray⟩, eB true)
theorem same_str (a b : List UInt8) : sameK (.plain .string) (.string ⟨a.toArray⟩) (.string ⟨b.toArray⟩) = some (a == b) := by
  simp only [sameK, Instr.sameNow]
  congr 1
  rw [show ((ByteArray.mk a.toArray) == (ByteArray.mk b.toArray)) = (a.toArray == b.toArray) from rfl]
  simp
theorem tget_ent (f : Fo) : ∀ ds : List Fo, tget (.plain .string) (.string ⟨(prF f).toArray⟩) (ds.map entF) = some (if (ds.any fun g => prF g == prF f) then some (eB true) else none)
  | [] => rfl
  | g :: ds => by
    have ih := tget_ent f ds
    rw [List.map_cons, entF, tget, same_str, List.any_cons]
    by_cases h : prF g = prF f
    · rw [h]
      simp
    · have h1 : (prF f == prF g) = false := beq_eq_false_iff_ne.2 fun e => h e.symm
      have h2 : (prF g == prF f) = false := beq_eq_false_iff_ne.2 h
      rw [h1, h2, Bool.false_or]
      exact ih
theorem tset_ent (f : Fo) : ∀ ds : List Fo, (ds.any fun g => prF g == prF f) = false → tset (.plain .string) (.string ⟨(prF f).toArray⟩) (eB true) (ds.map entF) = some ((ds ++ [f]).map entF)
  | [], _ => rfl
  | g :: ds, h => by
    rw [List.any_cons, Bool.or_eq_false_iff] at h
    have ih := tset_ent f ds h.2
    have h1 : (prF f == prF g) = false := by
      rw [beq_eq_false_iff_ne]
      rw [beq_eq_false_iff_ne] at h
      exact fun e => h.1 e.symm
    rw [List.map_cons, entF, tset, same_str, h1]
    simp only [ih]
    rfl
theorem ded_snoc (l : List Fo) (f : Fo) : dedF (l ++ [f]) = dedStep (dedF l) f := by rw [dedF, List.foldl_append]; rfl
theorem conj_snoc {l : List Fo} (h : l ≠ []) (f : Fo) : conjF (l ++ [f]) = .an (conjF l) f := by
  cases l with
  | nil => exact absurd rfl h
  | cons x l => simp [conjF, List.foldl_append]
theorem foC_at (f : Fo) : ∃ a b c d : TL, foC f = [a, b, c, d] ∧ (∃ o x y, a = .v (.string o) ∧ b = eI x ∧ c = eI y) ∧ TL.leaf d = true := by
  rcases foC_len f with ⟨o, x, y, h⟩ | ⟨o, x, y, ks, h⟩
  · exact ⟨_, _, _, _, h, ⟨o, x, y, rfl, rfl, rfl⟩, rfl⟩
  · exact ⟨_, _, _, _, h, ⟨o, x, y, rfl, rfl, rfl⟩, rfl⟩
theorem ded_len (l : List Fo) : (dedF l).length ≤ l.length := by
  have key : ∀ (l d : List Fo), (l.foldl dedStep d).length ≤ d.length + l.length := by
    intro l
    induction l with
    | nil => intro d; simp
    | cons f l ih =>
      intro d
      rw [List.foldl_cons]
      have := ih (dedStep d f)
      have h2 : (dedStep d f).length ≤ d.length + 1 := by
        unfold dedStep
        split <;> simp
      simp only [List.length_cons]
      omega
  have := key l []
  simpa [dedF] using this
set_option maxHeartbeats 2000000 in
theorem all_spec (L : List Fo) (hne : L ≠ []) (hv : ∀ f ∈ L, vokF f) (hs : ∀ f ∈ L, szF f ≤ 20000) (hl : L.length ≤ 1000) : PCall Tryz.prog 108 [.sl .any 4 (L.map foC)] (.t .ro (.agg (foC (allF L)))) [] := by
  refine pcall_wpTS [11] Tryz.func108 rfl (by kernel_rfl) ?_
  simp -dsimp
  refine wk_loopS [11] (fun p : Nat × Kind × Kind × TL × TL × TL × TL => ⟨[(11, pI p.1), (10, pI L.length), (9, .t .ro (.sl .any 4 (L.map foC))), (3, .omp 8), (4, .ptr 4 0), (2, .ptr 2 0)],
      [(8, .tab .fz ((dedF (L.take p.1)).map entF)), (4, .blk 37 [.t p.2.1 p.2.2.2.1, .t p.2.1 p.2.2.2.2.1, .t p.2.1 p.2.2.2.2.2.1, .t p.2.2.1 p.2.2.2.2.2.2]), (2, .blk 37 [.t .fz (.v (.string ByteArray.empty)), pI 0, pI 0, .t .fz (.v (.slice none 0 0))])]⟩)
    (fun p => p.1 ≤ L.length ∧ (TL.leaf p.2.2.2.1 = true ∧ TL.leaf p.2.2.2.2.1 = true ∧ TL.leaf p.2.2.2.2.2.1 = true ∧ TL.leaf p.2.2.2.2.2.2 = true) ∧ (dedF (L.take p.1) ≠ [] → foC (conjF (dedF (L.take p.1))) = [p.2.2.2.1, p.2.2.2.2.1, p.2.2.2.2.2.1, p.2.2.2.2.2.2])) (fun p => L.length - p.1) (0, .fz, .fz, .v (.string ByteArray.empty), eI 0, eI 0, .v (.slice none 0 0))
    (le_of (by simp) (by simp [dedF])) ⟨Nat.zero_le _, ⟨rfl, rfl, rfl, rfl⟩, fun h => absurd rfl h⟩ fun ⟨i, k, k', a, b, c, d⟩ ⟨hi, ⟨la, lb, lc, ld⟩, hcells⟩ => ?_
  dsimp only at hi hcells la lb lc ld
  simp -dsimp
  refine condX_dec (fun hlt => ?_) (fun hge => ?_)
  · have hlt' : i < L.length := by omega
    have hi0 : (i : Int) < L.length := by omega
    have hw := wr (n := (i : Int) + 1) (by omega) (by omega)
    have hm := List.getElem_mem hlt'
    have hp := printFo_spec L[i] (hv _ hm) (hs _ hm)
    have hd := ded_snoc (L.take i) L[i]
    rw [← take_snoc hlt'] at hd
    have htg := tget_ent L[i] (dedF (L.take i))
    have hts := tset_ent L[i] (dedF (L.take i))
    have hdl := ded_len (L.take i)
    have htl : (L.take i).length ≤ 1000 := by rw [List.length_take]; omega
    obtain ⟨a1, b1, c1, d1, hfc, ⟨o1, x1, y1, rfl, rfl, rfl⟩, ld1⟩ := foC_at L[i]
    rw [hfc] at hp
    have hik : ∀ key : ByteArray, isKeyK (.plain .string) (.string key) = true := fun _ => rfl
    unfold dedStep at hd
    cases hany : (dedF (L.take i)).any fun g => prF g == prF L[i]
    · rw [hany] at hd htg
      have hts := hts hany
      simp only [Bool.false_eq_true, if_false] at hd htg
      have hcs : dedF (L.take i) ≠ [] → foC (conjF (dedF (L.take (i + 1)))) = [sT [38], eI 0, eI 0, .sl .any 4 [[a, b, c, d], [.v (.string o1), eI x1, eI y1, d1]]] := fun h => by
        rw [hd, conj_snoc h, foC, hcells h, hfc]
      have hc0 : dedF (L.take i) = [] → foC (conjF (dedF (L.take (i + 1)))) = [.v (.string o1), eI x1, eI y1, d1] := fun h => by
        rw [hd, h]
        exact hfc
      have hsn : (dedF (L.take i) ++ [L[i]]).map entF = (dedF (L.take (i + 1))).map entF := by rw [hd]
      rw [hsn] at hts
      generalize hD : dedF (L.take i) = D at *
      generalize hD' : dedF (L.take (i + 1)) = D' at *
      generalize (ByteArray.mk (prF L[i]).toArray) = key at *
      by_cases hD0 : D = []
      · subst hD0
        have hc := hc0 rfl
        have hts0 : [(Value.string key, eB true)] = D'.map entF := Option.some.inj hts
        simp -dsimp [hi0, hlt', hfc, ld1]
        first
          | refine CallG.by (hp) ?_
          | refine CallGE.by (hp) ?_
          | refine CallGB.by (hp) ?_
        simp -dsimp [hik, ld1, tget]
        refine stop_go ?_
        simp -dsimp [hik, tset, hw]
        refine LoopP_next (i + 1, .ro, .ro, .v (.string o1), eI x1, eI y1, d1) (le_of (by simp) (by simp [hts0, hD'])) ⟨hlt', ⟨rfl, rfl, rfl, ld1⟩, fun _ => by simp only; rw [hD']; exact hc⟩ (by simp only; omega)
      · have hc := hcells hD0
        have hcs := hcs hD0
        have hln : ¬ ((D.length : Nat) : Int) = 0 := fun e => hD0 (List.eq_nil_of_length_eq_zero (by omega))
        have hln2 : (((D.length : Nat) : Int) == 0) = false := by
          rw [beq_eq_false_iff_ne]
          exact hln
        rcases foC_len (conjF D) with ⟨o, x, y, hf⟩ | ⟨o, x, y, ks, hf⟩
        all_goals
          rw [hc] at hf
          simp only [List.cons.injEq, and_true] at hf
          obtain ⟨rfl, rfl, rfl, rfl⟩ := hf
          rcases foC_len L[i] with ⟨o2, x2, y2, hf2⟩ | ⟨o2, x2, y2, ks2, hf2⟩
          all_goals
            rw [hfc] at hf2
            simp only [List.cons.injEq, and_true] at hf2
            obtain ⟨-, -, -, rfl⟩ := hf2
            cases k <;> cases k'
            all_goals
              simp -dsimp [hi0, hlt', hfc, ld1]
              first
                | refine CallG.by (hp) ?_
                | refine CallGE.by (hp) ?_
                | refine CallGB.by (hp) ?_
              simp -dsimp [htg, hik, hD0, hln2, ld1]
              refine stop_frz [27] ?_
              simp -dsimp
              refine stop_go ?_
              simp -dsimp [hik, hts, hw]
              first
                | (refine LoopP_next (i + 1, .fz, .ro, sT [38], eI 0, eI 0, .sl .any 4 [[.v (.string o), eI x, eI y, _], [.v (.string o1), eI x1, eI y1, _]]) (le_of (by simp [sT]) ?_) ⟨hlt', ⟨rfl, rfl, rfl, rfl⟩, fun _ => by simp only; rw [hD']; exact hcs⟩ (by simp only; omega)
                   simp [sT, hD']; done)
                | (refine LoopP_next (i + 1, .fz, .fz, sT [38], eI 0, eI 0, .sl .any 4 [[.v (.string o), eI x, eI y, _], [.v (.string o1), eI x1, eI y1, _]]) (le_of (by simp [sT]) ?_) ⟨hlt', ⟨rfl, rfl, rfl, rfl⟩, fun _ => by simp only; rw [hD']; exact hcs⟩ (by simp only; omega)
                   simp [sT, hD']; done)
    · rw [hany] at hd htg
      simp only [if_true] at hd htg
      rw [← hd] at hcells
      generalize (ByteArray.mk (prF L[i]).toArray) = key at *
      simp -dsimp [hi0, hlt', hfc, ld1]
      first
        | refine CallG.by (hp) ?_
        | refine CallGE.by (hp) ?_
        | refine CallGB.by (hp) ?_
      simp -dsimp [htg, hik, hw]
      refine LoopP_next (i + 1, k, k', a, b, c, d) (le_of (by simp) (by simp [hd])) ⟨hlt', ⟨la, lb, lc, ld⟩, hcells⟩ (by simp only; omega)
  · have hie : i = L.length := by omega
    rw [hie, List.take_length] at hcells
    have hne2 := (ded_all hv).2.2 hne
    have hF := hcells hne2
    rw [allF, hF]
    rcases foC_len (conjF (dedF L)) with ⟨o, x, y, hf⟩ | ⟨o, x, y, ks, hf⟩
    all_goals
      rw [hF] at hf
      simp only [List.cons.injEq, and_true] at hf
      obtain ⟨rfl, rfl, rfl, rfl⟩ := hf
      cases k <;> cases k'
      all_goals
        simp -dsimp
        refine retT_c ?_
        simp -dsimp
end Go.Proofs.YtnikonhkbldnnaaGreatDoor
