import Derived.Test.YtpcmmjmoiplhjaaGreatDoorPSE
/- PSF: a walk that stops at some regions; there memory of our own may be given up, taken over, named anew. -/
set_option linter.unusedVariables false
set_option linter.unusedSimpArgs false
namespace Go.PS
open Go Go.RowKit
section
variable {P : Program} {n : Nat}
/-- A region at which the walk stops. -/
def StopG (P : Program) (n : Nat) (id : Nat) (ops : Array Oper) (s : StL) (Q : Exit → StL → Prop) (wo : Wit ops) (wQ : Wit Q) : Prop := CodeW P n (.region id ops false) s Q
/-- The walk, with the regions at which it stops. -/
def wpkS (P : Program) (n : Nat) (ids : List Nat) : Code → StL → (Exit → StL → Prop) → Prop
  | .skip, s, Q => Q .normal s
  | .ret, s, Q => Q .ret s
  | .exit id, s, Q => Q (.exit id) s
  | .seq x y, s, Q => wpkS P n ids x s (SeqK (fun s' Q' => wpkS P n ids y s' Q') Q)
  | .block id c, s, Q => wpkS P n ids c s (BlkK id Q)
  | .cond c x y, s, Q => condX (boolPV (ev s c)) (wpkS P n ids x s Q) (wpkS P n ids y s Q) ⟨⟩ ⟨⟩
  | .region id ops false, s, Q => condX (some (ids.contains id)) (StopG P n id ops s Q ⟨⟩ ⟨⟩) (RunW P n ops ops.toList s (NormK Q)) ⟨⟩ ⟨⟩
  | .region id ops true, s, Q => DrawG P n id ops s Q ⟨⟩ ⟨⟩
  | .loop c, s, Q => LoopG P n c s Q ⟨⟩ ⟨⟩
  | c, s, Q => CodeW P n c s Q
section
variable (ids : List Nat) (s : StL) (Q : Exit → StL → Prop)
@[simp ↓] theorem wpkS_skip : wpkS P n ids .skip s Q = Q .normal s := rfl
@[simp ↓] theorem wpkS_ret : wpkS P n ids .ret s Q = Q .ret s := rfl
@[simp ↓] theorem wpkS_exit (id : Nat) : wpkS P n ids (.exit id) s Q = Q (.exit id) s := rfl
@[simp ↓] theorem wpkS_seq (x y : Code) : wpkS P n ids (.seq x y) s Q = wpkS P n ids x s (SeqK (fun s' Q' => wpkS P n ids y s' Q') Q) := rfl
@[simp ↓] theorem wpkS_block (id : Nat) (c : Code) : wpkS P n ids (.block id c) s Q = wpkS P n ids c s (BlkK id Q) := rfl
@[simp ↓] theorem wpkS_cond (c : Operand) (x y : Code) : wpkS P n ids (.cond c x y) s Q = condX (boolPV (ev s c)) (wpkS P n ids x s Q) (wpkS P n ids y s Q) ⟨⟩ ⟨⟩ := rfl
@[simp ↓] theorem wpkS_region (id : Nat) (l : List Oper) : wpkS P n ids (.region id l.toArray false) s Q = condX (some (ids.contains id)) (StopG P n id l.toArray s Q ⟨⟩ ⟨⟩) (RunG P n l.toArray l s (NormK Q) ⟨⟩ ⟨⟩) ⟨⟩ ⟨⟩ := rfl
@[simp ↓] theorem wpkS_drawn (id : Nat) (ops : Array Oper) : wpkS P n ids (.region id ops true) s Q = DrawG P n id ops s Q ⟨⟩ ⟨⟩ := rfl
@[simp ↓] theorem wpkS_loop (b : Code) : wpkS P n ids (.loop b) s Q = LoopG P n b s Q ⟨⟩ ⟨⟩ := rfl
end
theorem wpkS_sound (ids : List Nat) : ∀ (c : Code) (s : StL) (Q : Exit → StL → Prop), wpkS P n ids c s Q → CodeW P n c s Q
  | .skip, s, Q, h => codeW_skip h
  | .ret, s, Q, h => codeW_ret h
  | .exit id, s, Q, h => codeW_exit h
  | .seq x y, s, Q, h => codeW_seq fun K hK => (wpkS_sound ids x s _ h).mono fun e s' hq => by
      cases e with
      | normal => exact hK s' (wpkS_sound ids y s' Q hq)
      | exit id => exact hq
      | goto l => exact hq
      | ret => exact hq
      | panic ch => exact hq
      | outgrown => exact hq
  | .block id c, s, Q, h => codeW_block ((wpkS_sound ids c s _ h).mono fun e s' hq => by
      cases e with
      | normal => exact hq
      | exit id => exact hq
      | goto l => exact hq
      | ret => exact hq
      | panic ch => exact hq
      | outgrown => exact hq)
  | .cond c x y, s, Q, h => by
      have h' : condX (boolPV (ev s c)) (wpkS P n ids x s Q) (wpkS P n ids y s Q) ⟨⟩ ⟨⟩ := h
      generalize he : ev s c = pv at h'
      unfold boolPV at h'
      split at h'
      · exact codeW_cond he (fun hb => wpkS_sound ids x s Q (h'.1 hb)) (fun hb => wpkS_sound ids y s Q (h'.2 hb))
      · exact h'.elim
  | .region id ops false, s, Q, h => by
      have h' : condX (some (ids.contains id)) (StopG P n id ops s Q ⟨⟩ ⟨⟩) (RunW P n ops ops.toList s (NormK Q)) ⟨⟩ ⟨⟩ := h
      cases hb : ids.contains id with
      | true =>
        rw [hb, condX_true] at h'
        exact h'
      | false =>
        rw [hb, condX_false] at h'
        exact codeW_region fun K hK => runW_mono h' hK
  | .region id ops true, s, Q, h => h
  | .loop b, s, Q, h => h
  | .rangeFunc _ _ _ _, s, Q, h => h
  | .scope _, s, Q, h => h
  | .label _, s, Q, h => h
  | .goto _, s, Q, h => h
  | .refuse _, s, Q, h => h
theorem pcall_wpS (ids : List Nat) {f : FuncId} {fn : Func} {c : Code} {args : List TL} {r : PV} {Mr : List (Nat × Res)} (hf : P.funcs[f]? = some fn) (hb : fn.body = some c) (hn : (fn.name == "runtime.NumGoroutine") = false)
    (h : wpkS P (args.length + (fn.ntmps - args.length)) ids c ⟨initT 0 args, []⟩ (EndP P fn r Mr)) : PCall P f args r Mr :=
  pcall_of hf hb hn (wpkS_sound ids _ _ _ h)
section
variable {id : Nat} {l : List Oper} {s : StL} {Q : Exit → StL → Prop} {wo : Wit l.toArray} {wQ : Wit Q}
/-- The walk goes on. -/
theorem stop_go (h : RunG P n l.toArray l s (NormK Q) ⟨⟩ ⟨⟩) : StopG P n id l.toArray s Q wo wQ := codeW_region fun K hK => runW_mono h hK
theorem stop_adoptM (m off d ty sz : Nat) {k : Kind} {ty0 : Nat} {cs : List PV} (hm : getM s.M m = .blk ty0 cs) (hc : cs[off]? = some (.t k (.v (.slice none 0 0)))) (hf : s.free d = true) (hne : (m == d) = false)
    (h : StopG P n id l.toArray ⟨s.T, (m, .blk ty0 (cs.set off (.osl d))) :: (d, .row ty sz .fz []) :: s.M⟩ Q wo wQ) : StopG P n id l.toArray s Q wo wQ := cw_adoptM m off d ty sz hm hc hf hne h
end
end
end Go.PS
