import Derived.Test.YtnikonhkbldnnaaDoorLB43
/- LB44: the closure that recovers. -/
set_option linter.unusedVariables false
set_option linter.unusedSimpArgs false
set_option maxRecDepth 20000
namespace Go.Proofs.YtnikonhkbldnnaaDoor
open Go Go.PS
attribute [-simp] isKeyK List.map_take
theorem rec_run (ρ : Operand → Value) (o : Oper) (ho : o.op = .call { callee := .builtin .recover, args := #[], argTypes := #[] }) (w : World) : (execOp ρ o).run Tryd.prog w = .ok .recover w := by
  simp [execOp, ho, resolve, invoke, builtin]
theorem asg_run (ρ : Operand → Value) (o : Oper) (x : Operand) (ho : o.op = .assign x) (w : World) : (execOp ρ o).run Tryd.prog w = .ok (.value (ρ x)) w := by
  simp [execOp, ho]
theorem mov_run (ρ : Operand → Value) (o : Oper) (x : Operand) (ho : o.op = .move x) (w : World) : (execOp ρ o).run Tryd.prog w = .ok (.value (ρ x)) w := by
  simp [execOp, ho]
theorem neq0 (w : World) : (binOp .neq 20 .nilIface .nilIface).run Tryd.prog w = .ok (.bool false) w := by
  kernel_rfl
theorem neq1 (w : World) : (binOp .neq 20 (.iface 95 (.agg #[])) .nilIface).run Tryd.prog w = .ok (.bool true) w := by
  kernel_rfl
theorem neq_run0 (ρ : Operand → Value) (o : Oper) (x : Operand) (t : Nat) (ho : o.op = .binOp .neq 20 x (.const .nilIface) t) (h1 : ρ x = .nilIface) (h2 : ρ (.const .nilIface) = .nilIface) (w : World) : (execOp ρ o).run Tryd.prog w = .ok (.value (.bool false)) w := by
  simp [execOp, ho, h1, h2, eqGuard, neq0]
theorem neq_run1 (ρ : Operand → Value) (o : Oper) (x : Operand) (t : Nat) (ho : o.op = .binOp .neq 20 x (.const .nilIface) t) (h1 : ρ x = .iface 95 (.agg #[])) (h2 : ρ (.const .nilIface) = .nilIface) (w : World) : (execOp ρ o).run Tryd.prog w = .ok (.value (.bool true)) w := by
  simp [execOp, ho, h1, h2, eqGuard, neq1]
theorem ass_run (ρ : Operand → Value) (o : Oper) (x : Operand) (ho : o.op = .typeAssert x 20 95 true) (h1 : ρ x = .iface 95 (.agg #[])) (w : World) : (execOp ρ o).run Tryd.prog w = .ok (.value (.tuple #[.agg #[], .bool true])) w := by
  simp [execOp, ho, h1, Instr.typeAssert, run_underlying undW]
theorem ext_run (ρ : Operand → Value) (o : Oper) (x : Operand) (i : Nat) (v : Value) (ho : o.op = .extract x i) (h1 : ρ x = .tuple #[.agg #[], .bool true]) (hv : v = if i = 0 then .agg #[] else .bool true) (hi : i < 2) (w : World) : (execOp ρ o).run Tryd.prog w = .ok (.value v) w := by
  subst hv
  rcases (by omega : i = 0 ∨ i = 1) with rfl | rfl <;> simp [execOp, ho, h1, Instr.extract]
theorem clos_ret {x y : Nat} {M : List (Nat × Res)} : DCall Tryd.prog 53 [.ptr x 0, .ptr y 0] M .returning .returning M := by
  intro w S φ fp vals hH
  refine callsD_of_wpS Tryd.func53 rfl fun c₀ cs hu => wpS_seq (wpS_recover (d1 := 5) (x := .tmp 5) (v := .nilIface) (cs' := c₀ :: cs) rfl rfl rfl (rec_run _ _ rfl w) (fun ρ => asg_run ρ _ _ rfl w) (by simp [recoverD, hu]) ?_)
  have hx := handed_sim Tryd.f53.ntmps hH
  generalize ha : ({ tmps := vals ++ Array.replicate (Tryd.f53.ntmps - vals.size) Go.undef, defers := [] } : Act) = a at hx
  have hx1 := SimX.put (v := .nilIface) hx (d := 5) (by simp) (.undef _)
  have hx2 := SimX.put (v := (a.put (some 5) .nilIface).eval (.tmp 5)) hx1 (d := 2) (by simp) (.undef _)
  have hs0 := hx.size
  have v1 : (a.put (some 5) .nilIface).eval (.tmp 5) = .nilIface := by
    have hlt : 5 < a.tmps.size := by rw [hs0]; simp
    simp [Act.put, Act.eval, hlt]
  rw [v1] at hx2
  show (Code.seq _ _).wpS _ _ ((a.put (some 5) .nilIface).put (some 2) ((a.put (some 5) .nilIface).eval (.tmp 5))) _ w
  rw [v1]
  have v2 : ((a.put (some 5) .nilIface).put (some 2) .nilIface).eval (.tmp 2) = .nilIface := by
    have hlt : 2 < a.tmps.size := by rw [hs0]; simp
    simp [Act.put, Act.eval, hlt]
  generalize (a.put (some 5) .nilIface).put (some 2) .nilIface = a2 at hx2 v2
  refine wpS_of_wp (wp_seq (region_wpList ?_))
  refine wpl_val rfl (mov_run _ _ _ rfl w) ?_
  rw [v2]
  have hx3 := SimX.put (v := .nilIface) hx2 (d := 6) (by simp) (.undef _)
  have hs2 := hx2.size
  have v3 : (a2.put (some 6) .nilIface).eval (.tmp 6) = .nilIface := by
    have hlt : 6 < a2.tmps.size := by rw [hs2]; simp
    simp [Act.put, Act.eval, hlt]
  refine wpl_val rfl (neq_run0 _ _ _ _ rfl v3 rfl w) ?_
  have hx4 := SimX.put (v := .bool false) hx3 (d := 7) (by simp) (.undef _)
  have v4 : ((a2.put (some 6) .nilIface).put (some 7) (.bool false)).eval (.tmp 7) = .bool false := by
    have hlt : 7 < a2.tmps.size := by rw [hs2]; simp
    simp [Act.put, Act.eval, hlt]
  show (Code.cond _ _ _).wp _ _ ((a2.put (some 6) .nilIface).put (some 7) (.bool false)) w
  generalize (a2.put (some 6) .nilIface).put (some 7) (.bool false) = a4 at hx4 v4
  refine wp_cond v4 ?_
  refine wp_skip ?_
  refine ⟨hx4.dfr.1, .returning, by rw [← hu], .tuple #[], by simp [results], rfl, .tuple #[], φ, _, rfl, back_of hx4 fun q _ => .inl rfl⟩
abbrev wrV : Value := .iface 95 (.agg #[])
def zC : List PV := [.t .fz (.v (.string ByteArray.empty)), pI 0, pI 0, .t .fz (.v (.slice none 0 0))]
theorem clos_pan : DCall Tryd.prog 53 [.ptr 1000001 0, .ptr 1000002 0] [(1000001, .blk 27 zC), (1000002, .blk 4 [pB false])] (.panicking wrC) (.panicking [{ v := wrV, recovered := true }])
    [(1000001, .blk 27 zC), (1000002, .blk 4 [pB false])] := by
  unfold zC
  intro w S φ fp vals hH
  refine callsD_of_wpS Tryd.func53 rfl fun c₀ cs hu => wpS_seq (wpS_recover (d1 := 5) (x := .tmp 5) (v := wrV) (cs' := { c₀ with mode := .panicking [{ v := wrV, recovered := true }] } :: cs) rfl rfl rfl (rec_run _ _ rfl w) (fun ρ => asg_run ρ _ _ rfl w) (by simp [recoverD, hu]) ?_)
  have hx := handed_sim Tryd.f53.ntmps hH
  generalize ha : ({ tmps := vals ++ Array.replicate (Tryd.f53.ntmps - vals.size) Go.undef, defers := [] } : Act) = a at hx
  have hx1 := SimX.put (v := wrV) hx (d := 5) (by simp) (.undef _)
  have hx2 := SimX.put (v := (a.put (some 5) wrV).eval (.tmp 5)) hx1 (d := 2) (by simp) (.undef _)
  have hs0 := hx.size
  have v1 : (a.put (some 5) wrV).eval (.tmp 5) = wrV := by
    have hlt : 5 < a.tmps.size := by rw [hs0]; simp
    simp [Act.put, Act.eval, hlt]
  rw [v1] at hx2
  show (Code.seq _ _).wpS _ _ ((a.put (some 5) wrV).put (some 2) ((a.put (some 5) wrV).eval (.tmp 5))) _ w
  rw [v1]
  have v2 : ((a.put (some 5) wrV).put (some 2) wrV).eval (.tmp 2) = wrV := by
    have hlt : 2 < a.tmps.size := by rw [hs0]; simp
    simp [Act.put, Act.eval, hlt]
  generalize (a.put (some 5) wrV).put (some 2) wrV = a2 at hx2 v2
  refine wpS_of_wp (wp_seq (region_wpList ?_))
  refine wpl_val rfl (mov_run _ _ _ rfl w) ?_
  rw [v2]
  have hx3 := SimX.put (v := wrV) hx2 (d := 6) (by simp) (.undef _)
  have hs2 := hx2.size
  have v3 : (a2.put (some 6) wrV).eval (.tmp 6) = wrV := by
    have hlt : 6 < a2.tmps.size := by rw [hs2]; simp
    simp [Act.put, Act.eval, hlt]
  refine wpl_val rfl (neq_run1 _ _ _ _ rfl v3 rfl w) ?_
  have hx4 := SimX.put (v := .bool true) hx3 (d := 7) (by simp) (.undef _)
  have v4 : ((a2.put (some 6) wrV).put (some 7) (.bool true)).eval (.tmp 7) = .bool true := by
    have hlt : 7 < a2.tmps.size := by rw [hs2]; simp
    simp [Act.put, Act.eval, hlt]
  have v5 : ((a2.put (some 6) wrV).put (some 7) (.bool true)).eval (.tmp 2) = wrV := by
    have := v2
    simp [Act.put, Act.eval] at this ⊢
    exact this
  show (Code.cond _ _ _).wp _ _ ((a2.put (some 6) wrV).put (some 7) (.bool true)) w
  generalize (a2.put (some 6) wrV).put (some 7) (.bool true) = a4 at hx4 v4 v5
  refine wp_cond v4 ?_
  rw [if_pos rfl]
  refine wp_seq (wp_seq (region_wpList ?_))
  have hs4 := hx4.size
  have ev : ∀ (a : Act) (t : Nat) (v : Value), a.tmps.size = [PV.ptr 1000001 0, PV.ptr 1000002 0].length + (Tryd.f53.ntmps - [PV.ptr 1000001 0, PV.ptr 1000002 0].length) → t < 17 → (a.put (some t) v).eval (.tmp t) = v := fun a t v h ht => by
    have hlt : t < a.tmps.size := by rw [h]; simpa using ht
    simp [Act.put, Act.eval, hlt]
  refine wpl_val rfl (mov_run _ _ _ rfl w) ?_
  rw [v5]
  have hx5 := SimX.put (v := wrV) hx4 (d := 9) (by simp) (.undef _)
  have u5 := ev a4 9 wrV hs4 (by omega)
  show wpList _ _ _ _ (a4.put (some 9) wrV) w
  generalize a4.put (some 9) wrV = a5 at hx5 u5
  refine wpl_val rfl (ass_run _ _ _ rfl u5 w) ?_
  have hx6 := SimX.put (v := .tuple #[.agg #[], .bool true]) hx5 (d := 10) (by simp) (.undef _)
  have u6 := ev a5 10 (.tuple #[.agg #[], .bool true]) hx5.size (by omega)
  show wpList _ _ _ _ (a5.put (some 10) (.tuple #[.agg #[], .bool true])) w
  generalize a5.put (some 10) (.tuple #[.agg #[], .bool true]) = a6 at hx6 u6
  refine wpl_val rfl (mov_run _ _ _ rfl w) ?_
  rw [u6]
  have hx7 := SimX.put (v := .tuple #[.agg #[], .bool true]) hx6 (d := 8) (by simp) (.undef _)
  have u7 := ev a6 8 (.tuple #[.agg #[], .bool true]) hx6.size (by omega)
  show wpList _ _ _ _ (a6.put (some 8) (.tuple #[.agg #[], .bool true])) w
  generalize a6.put (some 8) (.tuple #[.agg #[], .bool true]) = a7 at hx7 u7
  refine wpl_val rfl (ext_run _ _ _ 0 (.agg #[]) rfl u7 rfl (by omega) w) ?_
  have hx8 := SimX.put (v := .agg #[]) hx7 (d := 11) (by simp) (p := .agg []) (.agg #[] rfl fun j x h => by simp at h)
  have u8 : (a7.put (some 11) (.agg #[])).eval (.tmp 8) = .tuple #[.agg #[], .bool true] := by
    have := u7
    simp [Act.put, Act.eval] at this ⊢
    exact this
  show wpList _ _ _ _ (a7.put (some 11) (.agg #[])) w
  generalize a7.put (some 11) (.agg #[]) = a8 at hx8 u8
  refine wpl_val rfl (ext_run _ _ _ 1 (.bool true) rfl u8 rfl (by omega) w) ?_
  have hx9 := SimX.put (v := .bool true) hx8 (d := 12) (by simp) (p := pB true) (.t (.v _))
  show wpList _ _ _ _ (a8.put (some 12) (.bool true)) w
  generalize a8.put (some 12) (.bool true) = a9 at hx9
  have hsim : Sim (Base.on w S φ fp) (fun g => ∃ m, fp m g) ([PV.ptr 1000001 0, PV.ptr 1000002 0].length + (Tryd.f53.ntmps - [PV.ptr 1000001 0, PV.ptr 1000002 0].length)) ⟨[(12, pB true), (11, .agg []), (0, .ptr 1000001 0), (1, .ptr 1000002 0)], [(1000001, .blk 27 [.t .fz (.v (.string ByteArray.empty)), pI 0, pI 0, .t .fz (.v (.slice none 0 0))]), (1000002, .blk 4 [pB false])]⟩ a9 w := by
    refine Sim.weak ⟨φ, fp, hx9⟩ (le_of (by simp) (by simp))
  refine runW_wp2 [] [_, _, _] hsim (K := fun s => s = ⟨[(4, pB true), (3, .ptr 3 0), (12, pB true), (11, .agg []), (0, .ptr 1000001 0), (1, .ptr 1000002 0)], [(3, .blk 95 []), (3, .blk 95 []), (1000001, .blk 27 [.t .fz (.v (.string ByteArray.empty)), pI 0, pI 0, .t .fz (.v (.slice none 0 0))]), (1000002, .blk 4 [pB false])]⟩) ?_ ?_
  · show RunG _ _ _ _ _ _ ⟨⟩ ⟨⟩
    simp -dsimp
  rintro s' a' w' rfl hs'
  show (Code.seq _ (Code.cond _ _ _)).wp _ _ a' w'
  refine wp_mono (wpk_sound (P := Tryd.prog) _ _ (fun e s => e = .normal ∧ s = ⟨[(14, pB false), (13, pB true), (4, pB true), (3, .ptr 3 0), (12, pB true), (11, .agg []), (0, .ptr 1000001 0), (1, .ptr 1000002 0)], [(3, .blk 95 []), (3, .blk 95 []), (1000001, .blk 27 [.t .fz (.v (.string ByteArray.empty)), pI 0, pI 0, .t .fz (.v (.slice none 0 0))]), (1000002, .blk 4 [pB false])]⟩) ?_ _ _ _ _ hs') ?_
  · simp -dsimp
  rintro e a' w' ⟨s', ⟨rfl, rfl⟩, hs'⟩
  show (Code.region _ _ _).wp _ _ a' w'
  refine wp_mono (wpk_sound (P := Tryd.prog) _ _ (fun e s => e = .normal ∧ getM s.M 1000001 = .blk 27 [.t .fz (.v (.string ByteArray.empty)), pI 0, pI 0, .t .fz (.v (.slice none 0 0))] ∧ getM s.M 1000002 = .blk 4 [pB false]) ?_ _ _ _ _ hs') ?_
  · simp -dsimp
  rintro e a' w' ⟨s', ⟨rfl, hm1, hm2⟩, φ', fp', hx'⟩
  refine ⟨hx'.dfr.1, _, rfl, .tuple #[], by simp [results], rfl, .tuple #[], φ', _, rfl, back_of hx' fun q hq => .inl ?_⟩
  simp at hq
  rcases hq with rfl | rfl
  · exact hm1.symm
  · exact hm2.symm
end Go.Proofs.YtnikonhkbldnnaaDoor
