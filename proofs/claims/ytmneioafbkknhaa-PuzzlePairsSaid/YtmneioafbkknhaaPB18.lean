import Derived.Test.YtmneioafbkknhaaPB17
/- PB18: broken: closures that write what they captured. -/
set_option linter.unusedVariables false
set_option linter.unusedSimpArgs false
set_option maxRecDepth 20000
namespace Go.Proofs.Ytmneioafbkknhaa
open Go Go.PS
attribute [-simp] List.map_take
/-- Do these rows show that an operation does not keep a Rel? -/
def badF (r : Rl) (op : Nat) (x : List Int) : Bool := !decide (opF op r.n x ∈ r.rows)
def growF (bad : List Int → Bool) (rows : List Int) : Nat → List Int → Option (List Int)
  | 0, l => if bad l then some l else none
  | k + 1, l => rows.findSome? fun x => growF bad rows k (l ++ [x])
def brokenF (r : Rl) (op : Nat) : Option (List Int) := growF (badF r op) r.rows (arity op) []
def lvP : Option (List Int) → PV
  | none => .t .fz (.v (.slice none 0 0))
  | some x => .t .fz (eIs x)
@[simp] theorem lvP_none : lvP none = .t .fz (.v (.slice none 0 0)) := rfl
@[simp] theorem lvP_some (x : List Int) : lvP (some x) = .t .fz (eIs x) := rfl
/-- What the innermost closure captured. -/
@[simp] def mM (r : Rl) (op : Nat) (o : Option (List Int)) : List (Nat × Res) :=
  [(1000000, .blk 48 [pI r.n, .t .ro (eIs r.rows)]), (1000001, .blk 114 [pI (arity op), .t .ro (.clo (opClo op r.n).1 (opClo op r.n).2)]), (1000002, .blk 37 [lvP o]), (1000003, .blk 4 [pB o.isSome])]
@[simp] def mCl : PV := .clo 102 [.ptr 1000000 0, .ptr 1000001 0, .ptr 1000002 0, .ptr 1000003 0]
theorem arity_le {op : Nat} (hop : op ≤ 5) : arity op ≤ 3 := by
  match op, hop with
  | 0, _ => decide
  | 1, _ => decide
  | 2, _ => decide
  | 3, _ => decide
  | 4, _ => decide
  | 5, _ => decide
theorem more_spec (r : Rl) (op : Nat) (hop : op ≤ 5) (hn : 0 ≤ r.n) (x : List Int) (hx : x.length = arity op) :
    ECall Try.prog 102 [.osl 1000010, .ptr 1000000 0, .ptr 1000001 0, .ptr 1000002 0, .ptr 1000003 0] ((1000010, .row 3 1 .ro (x.map cI)) :: mM r op none) (pB (!badF r op x))
      ((1000010, .row 3 1 .ro (x.map cI)) :: mM r op (if badF r op x then some x else none)) := by
  have ha := arity_le hop
  refine ecall_wp Try.func102 rfl (by kernel_rfl) ?_
  simp -dsimp
  refine wk_draw 5 [4] mixed (by kernel_rfl) ?_
  simp -dsimp
  first
    | refine CallG.by (opClo_spec op r.n x hop hn hx) ?_
    | refine CallGE.by (opClo_spec op r.n x hop hn hx) ?_
    | refine CallGB.by (opClo_spec op r.n x hop hn hx) ?_
  simp -dsimp
  first
    | refine CallG.by (has_spec r (opF op r.n x)) ?_
    | refine CallGE.by (has_spec r (opF op r.n x)) ?_
    | refine CallGB.by (has_spec r (opF op r.n x)) ?_
  simp -dsimp
  cases hb : decide (opF op r.n x ∈ r.rows) with
  | true =>
    have hbf : badF r op x = false := by rw [badF, hb]; rfl
    simp -dsimp [hbf]
    refine retE_c (by simp -dsimp [hbf]) (by simp [hbf])
  | false =>
    have hbf : badF r op x = true := by rw [badF, hb]; rfl
    simp -dsimp [hbf]
    first
      | refine CallG.by (clone_fz x (by omega)) ?_
      | refine CallGE.by (clone_fz x (by omega)) ?_
      | refine CallGB.by (clone_fz x (by omega)) ?_
    simp -dsimp
    refine retE_c (by simp -dsimp [hbf]) (by simp [hbf])
/-- What each's closure captured. -/
@[simp] def gM (r : Rl) (op : Nat) (l : List Int) (o : Option (List Int)) : List (Nat × Res) :=
  (1000004, .blk 37 [.osl 1001]) :: (1000005, .blk 3 [pI (arity op)]) :: (1000006, .blk 139 [mCl]) :: (1000007, .blk 48 [pI r.n, .t .ro (eIs r.rows)]) ::
  (1000008, .blk 35 [.clo 122 [.ptr 1000004 0, .ptr 1000005 0, .ptr 1000006 0, .ptr 1000007 0, .ptr 1000008 0]]) :: (1001, .row 3 1 .ro (l.map cI)) :: mM r op o
@[simp] def gS : Sg := [(1000000, 1000000), (1000001, 1000001), (1000002, 1000002), (1000003, 1000003), (1000004, 1000004), (1000005, 1000005), (1000006, 1000006), (1000007, 1000007), (1000008, 1000008), (1001, 1001)]
theorem grow_spec (r : Rl) (op : Nat) (hop : op ≤ 5) (hn : 0 ≤ r.n) (hrl : r.rows.length ≤ 8) : ∀ (k : Nat) (l : List Int), l.length + k = arity op →
    ECall Try.prog 122 [.ptr 1000004 0, .ptr 1000005 0, .ptr 1000006 0, .ptr 1000007 0, .ptr 1000008 0] (gM r op l none) (pB (growF (badF r op) r.rows k l).isNone)
      (gM r op ((growF (badF r op) r.rows k l).getD l) (growF (badF r op) r.rows k l))
  | 0, l, hl => by
    have ha := arity_le hop
    have e1 : (l.length : Int) = arity op := by omega
    refine ecall_wp Try.func122 rfl (by kernel_rfl) ?_
    simp -dsimp [e1]
    first
      | refine CallG.on (g := [(1001, 1000010), (1000000, 1000000), (1000001, 1000001), (1000002, 1000002), (1000003, 1000003)]) (more_spec r op hop hn l (by omega)) (by decide) (by simp) (by simp) (by simp [Sg.bk]) ?_
      | refine CallN.on (g := [(1001, 1000010), (1000000, 1000000), (1000001, 1000001), (1000002, 1000002), (1000003, 1000003)]) (more_spec r op hop hn l (by omega)) (by decide) (by simp) (by simp) (by simp [Sg.bk]) ?_
      | refine CallGB.on (g := [(1001, 1000010), (1000000, 1000000), (1000001, 1000001), (1000002, 1000002), (1000003, 1000003)]) (more_spec r op hop hn l (by omega)) (by decide) (by simp) (by simp) (by simp [Sg.bk]) ?_
    cases hb : badF r op l with
    | true =>
      simp -dsimp [growF, hb]
      refine retE_c (by simp -dsimp [growF, hb]) (by simp [growF, hb])
    | false =>
      simp -dsimp [growF, hb]
      refine retE_c (by simp -dsimp [growF, hb]) (by simp [growF, hb])
  | k + 1, l, hl => by
    have ha := arity_le hop
    have e1 : ((l.length : Int) == (arity op : Int)) = false := by simp; omega
    refine ecall_wp Try.func122 rfl (by kernel_rfl) ?_
    simp -dsimp [e1]
    have hG : growF (badF r op) r.rows (k + 1) l = r.rows.findSome? fun x => growF (badF r op) r.rows k (l ++ [x]) := rfl
    generalize growF (badF r op) r.rows (k + 1) l = o at hG
    refine wk_loop (fun i : Nat => ⟨[(18, pI i), (17, pI r.rows.length), (16, .t .ro (eIs r.rows)), (0, .ptr 1000004 0), (1, .ptr 1000005 0), (2, .ptr 1000006 0), (3, .ptr 1000007 0), (4, .ptr 1000008 0)], gM r op l none⟩)
      (fun i => i ≤ r.rows.length ∧ o = (r.rows.drop i).findSome? fun x => growF (badF r op) r.rows k (l ++ [x])) (fun i => r.rows.length - i) 0 (le_of (by simp) (by simp)) ⟨by omega, by simpa using hG⟩ fun i ⟨hi, ho⟩ => ?_
    simp -dsimp
    refine condX_dec (fun h => ?_) (fun h => ?_)
    rotate_left
    · have : i = r.rows.length := by omega
      subst this
      simp only [List.drop_length, List.findSome?_nil] at ho
      subst ho
      simp -dsimp
      refine retE_c (by simp -dsimp) (by simp)
    have hw := wr (n := (i : Int) + 1) (by omega) (by omega)
    have hb1 : (l.length + 1) * 8 ≤ 140737488355328 := by omega
    have hw2 := wr (n := (l.length : Int)) (by omega) (by omega)
    have hle2 : (l.length : Int) ≤ (l.length : Int) + 1 := by omega
    have hT : ∀ e : List TL, List.take l.length (List.map cI l ++ [e]) = List.map cI l := fun e => List.take_left' (by simp)
    rw [List.drop_eq_getElem_cons h, List.findSome?_cons] at ho
    simp -dsimp [h, hb1]
    first
      | refine CallG.on (g := gS) (grow_spec r op hop hn hrl k (l ++ [r.rows[i]]) (by simp; omega)) (by decide) (by simp) (by simp) (by simp [Sg.bk]) ?_
      | refine CallN.on (g := gS) (grow_spec r op hop hn hrl k (l ++ [r.rows[i]]) (by simp; omega)) (by decide) (by simp) (by simp) (by simp [Sg.bk]) ?_
      | refine CallGB.on (g := gS) (grow_spec r op hop hn hrl k (l ++ [r.rows[i]]) (by simp; omega)) (by decide) (by simp) (by simp) (by simp [Sg.bk]) ?_
    generalize growF (badF r op) r.rows k (l ++ [r.rows[i]]) = g at ho
    cases g with
    | some x =>
      simp only at ho
      subst ho
      simp -dsimp
      refine retE_c (by simp -dsimp) (by simp)
    | none =>
      simp only at ho
      simp -dsimp [hw, hw2, hle2, hT]
      exact LoopP_next (i + 1) (le_of (by simp) (by simp)) ⟨h, ho⟩ (by omega)
theorem each_spec (r : Rl) (op : Nat) (hop : op ≤ 5) (hn : 0 ≤ r.n) (hrl : r.rows.length ≤ 8) :
    ECall Try.prog 101 [.agg [pI r.n, .t .ro (eIs r.rows)], pI (arity op), mCl] (mM r op none) (.tup []) (mM r op (brokenF r op)) := by
  refine ecall_wp Try.func101 rfl (by kernel_rfl) ?_
  simp -dsimp
  have hgr := grow_spec r op hop hn hrl (arity op) [] (by simp)
  change ECall _ _ _ _ (pB (brokenF r op).isNone) (gM r op ((brokenF r op).getD []) (brokenF r op)) at hgr
  generalize brokenF r op = o at hgr
  have hgr' := ecall_adopt (M := (1000004, .blk 37 [.t .fz (.v (.slice none 0 0))]) :: (1000005, .blk 3 [pI (arity op)]) :: (1000006, .blk 139 [mCl]) :: (1000007, .blk 48 [pI r.n, .t .ro (eIs r.rows)]) ::
    (1000008, .blk 35 [.clo 122 [.ptr 1000004 0, .ptr 1000005 0, .ptr 1000006 0, .ptr 1000007 0, .ptr 1000008 0]]) :: mM r op none) 1000004 0 1001 37 3 1 (k := .fz) (cs := [.t .fz (.v (.slice none 0 0))]) hgr (fun q => by
      by_cases h1 : q = 1000004
      · subst h1; simp
      · by_cases h2 : q = 1001
        · subst h2; simp
        · simp [h1, h2, Ne.symm h1, Ne.symm h2]) (by simp) rfl (by simp) (by decide) (by decide) (by simp) (by simp)
  first
    | refine CallG.on (g := [(1000000, 1000000), (1000001, 1000001), (1000002, 1000002), (1000003, 1000003), (6, 1000004), (4, 1000005), (5, 1000006), (3, 1000007), (7, 1000008), (120, 1001)]) (hgr') (by decide) (by simp) (by simp) (by simp [Sg.bk]) ?_
    | refine CallN.on (g := [(1000000, 1000000), (1000001, 1000001), (1000002, 1000002), (1000003, 1000003), (6, 1000004), (4, 1000005), (5, 1000006), (3, 1000007), (7, 1000008), (120, 1001)]) (hgr') (by decide) (by simp) (by simp) (by simp [Sg.bk]) ?_
    | refine CallGB.on (g := [(1000000, 1000000), (1000001, 1000001), (1000002, 1000002), (1000003, 1000003), (6, 1000004), (4, 1000005), (5, 1000006), (3, 1000007), (7, 1000008), (120, 1001)]) (hgr') (by decide) (by simp) (by simp) (by simp [Sg.bk]) ?_
  cases o with
  | none =>
    simp -dsimp
    refine retE_c (by simp -dsimp) (by simp)
  | some x =>
    simp -dsimp
    refine retE_c (by simp -dsimp) (by simp)
theorem broken_spec (r : Rl) (op : Nat) (hop : op ≤ 5) (hn : 0 ≤ r.n) (hrl : r.rows.length ≤ 8) :
    PCall Try.prog 65 [eRl r, eI op] (.t .fz (match brokenF r op with | some x => .tup [eIs x, eB true] | none => .tup [.v (.slice none 0 0), eB false])) [] := by
  refine pcall_wp _ Try.func65 rfl (by kernel_rfl) rfl ?_
  simp -dsimp
  first
    | refine CallG.by (operate_spec op r.n hop) ?_
    | refine CallGE.by (operate_spec op r.n hop) ?_
    | refine CallGB.by (operate_spec op r.n hop) ?_
  simp -dsimp
  first
    | refine CallG.on (g := [(2, 1000000), (6, 1000001), (4, 1000002), (5, 1000003)]) (each_spec r op hop hn hrl) (by decide) (by simp) (by simp) (by simp [Sg.bk]) ?_
    | refine CallN.on (g := [(2, 1000000), (6, 1000001), (4, 1000002), (5, 1000003)]) (each_spec r op hop hn hrl) (by decide) (by simp) (by simp) (by simp [Sg.bk]) ?_
    | refine CallGB.on (g := [(2, 1000000), (6, 1000001), (4, 1000002), (5, 1000003)]) (each_spec r op hop hn hrl) (by decide) (by simp) (by simp) (by simp [Sg.bk]) ?_
  cases brokenF r op with
  | none =>
    simp -dsimp
    refine wk_tree (.nd (.cons 0 (.nd (.cons 1 (.nd (.cons 2 (.nd (.cons 3 (.nd .nil) .nil)) .nil)) (.cons 2 (.nd (.cons 1 (.nd (.cons 3 (.nd .nil) .nil)) .nil)) .nil))) (.cons 1 (.nd (.cons 0 (.nd (.cons 2 (.nd (.cons 3 (.nd .nil) .nil)) .nil)) .nil)) .nil))) mixed (by kernel_rfl) ?_
    simp -dsimp
    refine ⟨?_, ?_⟩ <;> refine retP_c ?_ <;> simp -dsimp
  | some x =>
    simp -dsimp
    refine wk_tree (.nd (.cons 0 (.nd (.cons 1 (.nd (.cons 2 (.nd (.cons 3 (.nd .nil) .nil)) .nil)) (.cons 2 (.nd (.cons 1 (.nd (.cons 3 (.nd .nil) .nil)) .nil)) .nil))) (.cons 1 (.nd (.cons 0 (.nd (.cons 2 (.nd (.cons 3 (.nd .nil) .nil)) .nil)) .nil)) .nil))) mixed (by kernel_rfl) ?_
    simp -dsimp
    refine ⟨?_, ?_⟩ <;> refine retP_c ?_ <;> simp -dsimp
end Go.Proofs.Ytmneioafbkknhaa
