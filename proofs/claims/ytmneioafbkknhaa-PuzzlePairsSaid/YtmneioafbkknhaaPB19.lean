import Derived.Test.YtmneioafbkknhaaPB18
/- PB19: the reference's broken, Keeps, Broken; Class on both sides. -/
set_option linter.unusedVariables false
set_option linter.unusedSimpArgs false
set_option maxRecDepth 20000
namespace Go.Proofs.Ytmneioafbkknhaa
open Go Go.PS
attribute [-simp] List.map_take
theorem arity_spec (op : Nat) (hop : op ≤ 5) : PCall Try.prog 104 [eI op] (pI (arity op)) [] := by
  refine pcall_wp _ Try.func104 rfl (by kernel_rfl) rfl ?_
  match op, hop with
  | 0, _ =>
    simp -dsimp
    refine retP_c ?_
    simp -dsimp [arity]
  | 1, _ =>
    simp -dsimp
    refine retP_c ?_
    simp -dsimp [arity]
  | 2, _ =>
    simp -dsimp
    refine retP_c ?_
    simp -dsimp [arity]
  | 3, _ =>
    simp -dsimp
    refine retP_c ?_
    simp -dsimp [arity]
  | 4, _ =>
    simp -dsimp
    refine retP_c ?_
    simp -dsimp [arity]
  | 5, _ =>
    simp -dsimp
    refine retP_c ?_
    simp -dsimp [arity]
theorem done_spec (op : Nat) (n : Int) (xs : List Int) (hop : op ≤ 5) (hn : 0 ≤ n) (hx : xs.length = arity op) : PCall Try.prog 87 [eI op, eI n, eIs xs] (pI (opF op n xs)) [] := by
  refine pcall_wp _ Try.func87 rfl (by kernel_rfl) rfl ?_
  match op, xs, hx, hop with
  | 0, xs, _, _ =>
    simp -dsimp
    refine retP_c ?_
    simp -dsimp [opF]
  | 1, xs, _, _ =>
    simp -dsimp [hn]
    refine retP_c ?_
    simp -dsimp [opF]
  | 2, [a, b], _, _ =>
    simp -dsimp
    refine wk_draw 6 [] mixed (by kernel_rfl) ?_
    simp -dsimp
    refine retP_c ?_
    simp -dsimp [opF]
  | 3, [a, b], _, _ =>
    simp -dsimp
    refine wk_draw 6 [] mixed (by kernel_rfl) ?_
    simp -dsimp
    refine retP_c ?_
    simp -dsimp [opF]
  | 4, [a, b, c], _, _ =>
    simp -dsimp
    refine wk_draw 22 [] mixed (by kernel_rfl) ?_
    simp -dsimp
    refine retP_c ?_
    simp -dsimp [opF]
  | 5, [a, b, c], _, _ =>
    simp -dsimp
    refine wk_draw 10 [] mixed (by kernel_rfl) ?_
    simp -dsimp
    refine retP_c ?_
    simp -dsimp [opF]
/-- What the reference's inner function answers. -/
def rbT (r : Rl) (op k : Nat) (l : List Int) : TL := match growF (badF r op) r.rows k l with
  | some x => .tup [eIs x, eB true]
  | none => .tup [eIs (if k = 0 then l else []), eB false]
theorem rbroken_spec (r : Rl) (op : Nat) (hop : op ≤ 5) (hn : 0 ≤ r.n) (hrl : r.rows.length ≤ 8) : ∀ (k : Nat) (l : List Int), l.length + k = arity op → PCall Try.prog 68 [eRl r, eI op, eIs l] (.t .ro (rbT r op k l)) []
  | 0, l, hl => by
    have ha := arity_le hop
    have e1 : (l.length : Int) = arity op := by omega
    refine pcall_wpT Try.func68 rfl (by kernel_rfl) ?_
    simp -dsimp
    first
      | refine CallG.by (arity_spec op hop) ?_
      | refine CallGE.by (arity_spec op hop) ?_
      | refine CallGB.by (arity_spec op hop) ?_
    simp -dsimp [e1]
    refine wk_draw 10 [6, 7] mixed (by kernel_rfl) ?_
    simp -dsimp
    first
      | refine CallG.by (done_spec op r.n l hop hn (by omega)) ?_
      | refine CallGE.by (done_spec op r.n l hop hn (by omega)) ?_
      | refine CallGB.by (done_spec op r.n l hop hn (by omega)) ?_
    simp -dsimp
    first
      | refine CallG.by (rhas_spec r (opF op r.n l)) ?_
      | refine CallGE.by (rhas_spec r (opF op r.n l)) ?_
      | refine CallGB.by (rhas_spec r (opF op r.n l)) ?_
    simp -dsimp
    refine retT_c ?_
    cases hb : decide (opF op r.n l ∈ r.rows) with
    | true =>
      have hbf : badF r op l = false := by rw [badF, hb]; rfl
      simp -dsimp [rbT, growF, hbf]
    | false =>
      have hbf : badF r op l = true := by rw [badF, hb]; rfl
      simp -dsimp [rbT, growF, hbf]
  | k + 1, l, hl => by
    have ha := arity_le hop
    have e1 : ((l.length : Int) == (arity op : Int)) = false := by simp; omega
    refine pcall_wpT Try.func68 rfl (by kernel_rfl) ?_
    simp -dsimp
    first
      | refine CallG.by (arity_spec op hop) ?_
      | refine CallGE.by (arity_spec op hop) ?_
      | refine CallGB.by (arity_spec op hop) ?_
    simp -dsimp [e1]
    refine lg_frz [3] ?_
    simp -dsimp
    have hG : growF (badF r op) r.rows (k + 1) l = r.rows.findSome? fun x => growF (badF r op) r.rows k (l ++ [x]) := rfl
    have hR : rbT r op (k + 1) l = match growF (badF r op) r.rows (k + 1) l with
      | some x => .tup [eIs x, eB true]
      | none => .tup [eIs [], eB false] := rfl
    generalize rbT r op (k + 1) l = y at hR
    generalize growF (badF r op) r.rows (k + 1) l = o at hG hR
    refine wk_loop (fun i : Nat => ⟨[(29, pI i), (28, pI r.rows.length), (27, .t .ro (eIs r.rows)), (3, .t .ro (.rp [eI r.n, eIs r.rows] 0)), (1, .t .ro (eI op)), (2, .t .ro (eIs l))], []⟩)
      (fun i => i ≤ r.rows.length ∧ o = (r.rows.drop i).findSome? fun x => growF (badF r op) r.rows k (l ++ [x])) (fun i => r.rows.length - i) 0 (le_of (by simp) (by simp)) ⟨by omega, by simpa using hG⟩ fun i ⟨hi, ho⟩ => ?_
    simp -dsimp
    refine condX_dec (fun h => ?_) (fun h => ?_)
    rotate_left
    · have : i = r.rows.length := by omega
      subst this
      simp only [List.drop_length, List.findSome?_nil] at ho
      subst ho
      simp only at hR
      subst hR
      simp -dsimp
      refine retT_w (k := .fz) (x := .tup [.v (.slice none 0 0), eB false]) (tup2_w nil_any') ?_
      simp -dsimp
    have hw := wr (n := (i : Int) + 1) (by omega) (by omega)
    have hb1 : (l.length + 1) * 8 ≤ 140737488355328 := by omega
    rw [List.drop_eq_getElem_cons h, List.findSome?_cons] at ho
    have ih := rbroken_spec r op hop hn hrl k (l ++ [r.rows[i]]) (by simp; omega)
    have hR2 : rbT r op k (l ++ [r.rows[i]]) = match growF (badF r op) r.rows k (l ++ [r.rows[i]]) with
      | some x => .tup [eIs x, eB true]
      | none => .tup [eIs (if k = 0 then l ++ [r.rows[i]] else []), eB false] := rfl
    rw [hR2] at ih
    generalize growF (badF r op) r.rows k (l ++ [r.rows[i]]) = g at ho ih
    rcases l with _ | ⟨b, bs⟩
    · simp -dsimp [h]
      refine wk_drawT 11 [9, 10] (.nd (.cons 11 (.nd (.cons 12 (.nd (.cons 13 (.nd (.cons 14 (.nd (.cons 15 (.nd (.cons 16 (.nd .nil) .nil)) .nil)) (.cons 15 (.nd (.cons 14 (.nd (.cons 16 (.nd .nil) .nil)) .nil)) .nil))) (.cons 14 (.nd (.cons 13 (.nd (.cons 15 (.nd (.cons 16 (.nd .nil) .nil)) .nil)) .nil)) .nil))) .nil)) .nil)) mixed (by kernel_rfl) (by kernel_rfl) ?_
      simp only [List.take]
      simp -dsimp
      first
        | refine CallG.frz [43, 44] ?_
        | refine CallN.frz [43, 44] ?_
      simp -dsimp
      first
        | refine CallG.by (ih) ?_
        | refine CallGE.by (ih) ?_
        | refine CallGB.by (ih) ?_
      cases g with
      | some x =>
        simp only at ho
        subst ho
        simp only at hR
        subst hR
        simp -dsimp
        (repeat' apply And.intro) <;> refine retT_c ?_ <;> simp -dsimp
      | none =>
        simp only at ho
        simp -dsimp [hw]
        (repeat' apply And.intro) <;> exact LoopP_next (i + 1) (le_of (by simp) (by simp)) ⟨h, ho⟩ (by omega)
    · simp -dsimp [h]
      refine wk_drawT 11 [9, 10] (.nd (.cons 11 (.nd (.cons 12 (.nd (.cons 13 (.nd (.cons 14 (.nd (.cons 15 (.nd (.cons 16 (.nd .nil) .nil)) .nil)) (.cons 15 (.nd (.cons 14 (.nd (.cons 16 (.nd .nil) .nil)) .nil)) .nil))) (.cons 14 (.nd (.cons 13 (.nd (.cons 15 (.nd (.cons 16 (.nd .nil) .nil)) .nil)) .nil)) .nil))) .nil)) .nil)) mixed (by kernel_rfl) (by kernel_rfl) ?_
      simp only [List.take]
      have h0 : (0 : Int) ≤ (bs.length : Int) + 1 := by omega
      have hT : List.take bs.length (List.map cI bs) = List.map cI bs := List.take_of_length_le (by simp)
      have hb2 : (bs.length + 1 + 1) * 8 ≤ 140737488355328 := by simpa using hb1
      simp only [eIs, List.cons_append, List.map_cons, List.map_append, List.map_nil] at ih
      simp -dsimp [h0, hT, hb2]
      first
        | refine CallG.frz [43, 44] ?_
        | refine CallN.frz [43, 44] ?_
      simp -dsimp
      first
        | refine CallG.by (ih) ?_
        | refine CallGE.by (ih) ?_
        | refine CallGB.by (ih) ?_
      cases g with
      | some x =>
        simp only at ho
        subst ho
        simp only at hR
        subst hR
        simp -dsimp
        (repeat' apply And.intro) <;> refine retT_c ?_ <;> simp -dsimp
      | none =>
        simp only at ho
        simp -dsimp [hw]
        (repeat' apply And.intro) <;> exact LoopP_next (i + 1) (le_of (by simp) (by simp)) ⟨h, ho⟩ (by omega)
end Go.Proofs.Ytmneioafbkknhaa
