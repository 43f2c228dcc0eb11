/- PS20: a nil slice adopted as a row of our own; the words by which states are reckoned. -/
import Derived.Test.YtmneioafbkknhaaPS19
set_option linter.unusedVariables false
set_option linter.unusedSimpArgs false
namespace Go.PS
open Go Go.RowKit

section
variable {P : Program} {n : Nat} {s : StL}

/-- A temporary's nil slice becomes an empty row of our own. -/
theorem cw_adoptT {c : Code} {Q : Exit → StL → Prop} (t d ty sz : Nat) {k : Kind} (ht : getT s.T t = .t k (.v (.slice none 0 0))) (hf : s.free d = true) (h : CodeW P n c ⟨(t, .osl d) :: s.T, (d, .row ty sz .fz []) :: s.M⟩ Q) : CodeW P n c s Q := by
  intro w0 F0 a w ⟨φ, fp, hs⟩
  refine h w0 F0 a w ?_
  simp only [StL.free, Bool.and_eq_true] at hf
  have hv : a.tmps.getD t Go.undef = .slice none 0 0 := by
    have := hs.tmp t
    rw [ht] at this
    exact this.t_inv.v_inv
  obtain ⟨φ', fp', h', hφ⟩ := hs.regrow (of_decide_eq_true hf.2.2) hf.1.1 hf.1.2 (w' := w) (v' := .slice none 0 0) (r' := .row ty sz .fz []) (F' := fun _ => False) rfl rfl rfl (Nat.le_refl _) (fun _ _ _ => rfl)
    (fun g hg => hg.elim) (fun φ' fp' hS hSc => ⟨[], .inr ⟨rfl, ⟨none, rfl⟩, fun g hg => hg⟩, by simp, by simp, fun i j e x he => by simp at he⟩)
  refine ⟨φ', fp', ⟨h'.res, h'.disj, h'.old, fun q => ?_, h'.evo, h'.size, h'.dfr, h'.fix⟩⟩
  simp only [getT]
  by_cases e : t = q
  · subst e
    rw [if_pos rfl, hv]
    exact .osl hφ
  · rw [if_neg e]
    exact h'.tmp q

/-- The same of a cell of a block of our own. -/
theorem cw_adoptM {c : Code} {Q : Exit → StL → Prop} (m off d ty sz : Nat) {k : Kind} {ty0 : Nat} {cs : List PV} (hm : getM s.M m = .blk ty0 cs) (hc : cs[off]? = some (.t k (.v (.slice none 0 0)))) (hf : s.free d = true) (hne : (m == d) = false)
    (h : CodeW P n c ⟨s.T, (m, .blk ty0 (cs.set off (.osl d))) :: (d, .row ty sz .fz []) :: s.M⟩ Q) : CodeW P n c s Q := by
  intro w0 F0 a w ⟨φ, fp, hs⟩
  refine h w0 F0 a w ?_
  simp only [StL.free, Bool.and_eq_true] at hf
  obtain ⟨φ', fp', h', hφ⟩ := hs.regrow (of_decide_eq_true hf.2.2) hf.1.1 hf.1.2 (w' := w) (v' := .slice none 0 0) (r' := .row ty sz .fz []) (F' := fun _ => False) rfl rfl rfl (Nat.le_refl _) (fun _ _ _ => rfl)
    (fun g hg => hg.elim) (fun φ' fp' hS hSc => ⟨[], .inr ⟨rfl, ⟨none, rfl⟩, fun g hg => hg⟩, by simp, by simp, fun i j e x he => by simp at he⟩)
  have hne' : ¬ d = m := by
    rintro rfl
    simp at hne
  refine ⟨φ', fp', ⟨fun q => ?_, h'.disj, h'.old, h'.tmp, h'.evo, h'.size, h'.dfr, h'.fix⟩⟩
  have hold := h'.res q
  show ResRep _ _ _ (getM ((m, _) :: (d, _) :: s.M) q) _ _
  simp only [getM] at hold ⊢
  by_cases e : m = q
  · subst e
    rw [if_pos rfl]
    rw [if_neg hne', hm] at hold
    obtain ⟨g, vs, hv, hF, hh, hsz, hr⟩ := hold
    refine ⟨g, vs, hv, hF, hh, by simpa using hsz, fun j x hx => ?_⟩
    by_cases ej : off = j
    · subst ej
      have hlt : off < cs.length := (List.getElem?_eq_some_iff.1 hc).1
      rw [List.getElem?_set_self hlt] at hx
      cases hx
      have := hr off _ hc
      have hv := this.t_inv.v_inv
      rw [hv]
      exact .osl hφ
    · rw [List.getElem?_set_ne ej] at hx
      exact hr j x hx
  · rw [if_neg e]
    exact hold

theorem all_nil {α : Type} (p : α → Bool) : ([] : List α).all p = true := rfl

theorem pcall_cast {f : FuncId} {args : List TL} {r r' : PV} {Mr : List (Nat × Res)} (h : PCall P f args r Mr) (e : r = r') : PCall P f args r' Mr := e ▸ h

end

attribute [simp] wantPV step valOp opVal ev_tmp ev_int ev_bool ev_str ev_sl ev_map ev_ptr ev_nilFunc ev_nilIface ev_agg ev_func getT getM newOp newVal
  app1 callee retS optL lendPV loadPV partPV addrPV idxPV nilPV bndPV slicePV lenPV builtinVal sBin sBinT sUn cellsPV lowerPV lowerL storePV buildPV partsPV fillPV rowPV appendPV shrinkPV srcPV nilCmp
  StL.free StL.kill killT killM Res.kill PV.men PV.menL Res.men Res.isDead Kind.join TL.leaf Value.oneCell' PV.noRo PV.noRoL Res.noRo PV.nm PV.nmL Res.nm PV.ren PV.renL Res.ren skipS gdPV gdV skipPV upd spl initT
  frzT optK resPV resL resOne

end Go.PS
