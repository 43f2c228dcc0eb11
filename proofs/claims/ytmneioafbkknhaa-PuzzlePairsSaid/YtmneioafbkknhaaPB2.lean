import Derived.Test.YtmneioafbkknhaaPB1
/- PB2: solves. -/
set_option linter.unusedVariables false
set_option linter.unusedSimpArgs false
set_option maxRecDepth 20000
namespace Go.Proofs.Ytmneioafbkknhaa
open Go Go.PS
def okC (p : Pz) (c : Cn) : Prop := 0 ≤ c.rel ∧ c.rel.toNat < p.rels.length ∧ ∀ v ∈ c.vars, 0 ≤ v
/-- Does a number solve a Cons? -/
def holds (p : Pz) (s : Int) (c : Cn) : Bool := decide (rowF s c.vars 0 0 ∈ (p.rels.getD c.rel.toNat default).rows)
def bitI (set : Int) (i : Nat) : Bool := andI (shrI set i) 1 == 1
def solvF (p : Pz) (set s : Int) : List Cn → Nat → Bool
  | [], _ => true
  | c :: cs, i => if bitI set i && !holds p s c then false else solvF p set s cs (i + 1)
theorem psolves_spec (p : Pz) (set v : Int) (hp : ∀ c ∈ p.cons, okC p c) : PCall Try.prog 66 [ePz p, eI set, eI v] (pB (solvF p set v p.cons 0)) [] := by
  refine pcall_agg 0 2 rfl rfl call66 fun hlen => ?_
  simp only [List.length_map] at hlen
  refine pcall_wp _ Try.func66 rfl (by kernel_rfl) rfl ?_
  simp -dsimp
  refine wk_loop (fun i : Nat => ⟨[(12, pI i), (11, pI p.cons.length), (10, .t .ro (eCns p.cons)), (3, .ptr 3 0), (1, .t .ro (eI set)), (2, .t .ro (eI v))], 
     [(3, .blk 32 [PV.t Kind.ro (eI p.vars), PV.t Kind.ro (eRls p.rels), PV.t Kind.ro (eCns p.cons)])]⟩) (fun i => i ≤ p.cons.length ∧ solvF p set v p.cons 0 = solvF p set v (p.cons.drop i) i) (fun i => p.cons.length - i) 0
    (le_of (by simp) (by simp)) (by simp) fun i ⟨hi, hx⟩ => ?_
  simp -dsimp
  refine condX_dec (fun h => ?_) (fun h => ?_)
  · have hw := wr (n := (i : Int) + 1) (by omega) (by omega)
    obtain ⟨h1, h2, h3⟩ := hp _ (List.getElem_mem h)
    have h4 : p.cons[i].rel < p.rels.length := by omega
    rw [List.drop_eq_getElem_cons h] at hx
    simp only [solvF, bitI, holds, List.getD_eq_getElem?_getD, List.getElem?_eq_getElem h2, Option.getD_some] at hx
    simp -dsimp [h, hw]
    refine wk_draw 16 [15] mixed (by kernel_rfl) ?_
    simp -dsimp [h, h1, h2, h4]
    refine condX_of (fun hb => ?_) (fun hb => ?_)
    · simp -dsimp [hb, h1, h2, h4]
      first
        | refine CallG.by (prow_spec _ _ h3) ?_
        | refine CallGE.by (prow_spec _ _ h3) ?_
        | refine CallGB.by (prow_spec _ _ h3) ?_
      simp -dsimp [hb, h1, h2, h4]
      first
        | refine CallG.by (has_spec p.rels[p.cons[i].rel.toNat] _) ?_
        | refine CallGE.by (has_spec p.rels[p.cons[i].rel.toNat] _) ?_
        | refine CallGB.by (has_spec p.rels[p.cons[i].rel.toNat] _) ?_
      simp -dsimp [hb, h1, h2, h4]
      refine condX_of (fun hc => ?_) (fun hc => ?_)
      · simp -dsimp
        refine retP_c ?_
        simp -dsimp [hx, hb, hc]
      · simp -dsimp [hw]
        refine LoopP_next (i + 1) (le_of (by simp) (by simp)) ⟨h, ?_⟩ (by omega)
        rw [hx, hb]
        simp [hc]
    · simp -dsimp [hb, h1, h2, h4, hw]
      refine LoopP_next (i + 1) (le_of (by simp) (by simp)) ⟨h, ?_⟩ (by omega)
      rw [hx, hb]
      simp
  · have : i = p.cons.length := by omega
    subst this
    simp -dsimp
    refine retP_c ?_
    simp -dsimp [hx, solvF]
theorem rsolves_spec (p : Pz) (set v : Int) (hp : ∀ c ∈ p.cons, okC p c) (hv : 0 ≤ p.vars) : PCall Try.prog 61 [ePz p, eI set, eI v] (pB (solvF p set v p.cons 0 && decide (0 ≤ v) && decide (v < shlI 1 p.vars.toNat))) [] := by
  refine pcall_agg 0 2 rfl rfl call61 fun hlen => ?_
  simp only [List.length_map] at hlen
  refine pcall_wp _ Try.func61 rfl (by kernel_rfl) rfl ?_
  simp -dsimp
  refine wk_loop (fun i : Nat => ⟨[(12, pI i), (11, pI p.cons.length), (10, .t .ro (eCns p.cons)), (3, .ptr 3 0), (1, .t .ro (eI set)), (2, .t .ro (eI v))], 
     [(3, .blk 25 [PV.t Kind.ro (eI p.vars), PV.t Kind.ro (eRls p.rels), PV.t Kind.ro (eCns p.cons)])]⟩) (fun i => i ≤ p.cons.length ∧ solvF p set v p.cons 0 = solvF p set v (p.cons.drop i) i) (fun i => p.cons.length - i) 0
    (le_of (by simp) (by simp)) (by simp) fun i ⟨hi, hx⟩ => ?_
  simp -dsimp
  refine condX_dec (fun h => ?_) (fun h => ?_)
  · have hw := wr (n := (i : Int) + 1) (by omega) (by omega)
    obtain ⟨h1, h2, h3⟩ := hp _ (List.getElem_mem h)
    have h4 : p.cons[i].rel < p.rels.length := by omega
    rw [List.drop_eq_getElem_cons h] at hx
    simp only [solvF, bitI, holds, List.getD_eq_getElem?_getD, List.getElem?_eq_getElem h2, Option.getD_some] at hx
    simp -dsimp [h, hw]
    refine wk_draw 15 [14] mixed (by kernel_rfl) ?_
    simp -dsimp [h, h1, h2, h4]
    refine condX_of (fun hb => ?_) (fun hb => ?_)
    · simp -dsimp [hb, h1, h2, h4]
      first
        | refine CallG.by (rrow_spec p.cons[i] v h3) ?_
        | refine CallGE.by (rrow_spec p.cons[i] v h3) ?_
        | refine CallGB.by (rrow_spec p.cons[i] v h3) ?_
      simp -dsimp [hb, h1, h2, h4]
      first
        | refine CallG.by (rhas_spec p.rels[p.cons[i].rel.toNat] _) ?_
        | refine CallGE.by (rhas_spec p.rels[p.cons[i].rel.toNat] _) ?_
        | refine CallGB.by (rhas_spec p.rels[p.cons[i].rel.toNat] _) ?_
      simp -dsimp [hb, h1, h2, h4]
      refine condX_of (fun hc => ?_) (fun hc => ?_)
      · simp -dsimp
        refine retP_c ?_
        simp -dsimp [hx, hb, hc]
      · simp -dsimp [hw]
        refine LoopP_next (i + 1) (le_of (by simp) (by simp)) ⟨h, ?_⟩ (by omega)
        rw [hx, hb]
        simp [hc]
    · simp -dsimp [hb, h1, h2, h4, hw]
      refine LoopP_next (i + 1) (le_of (by simp) (by simp)) ⟨h, ?_⟩ (by omega)
      rw [hx, hb]
      simp
  · have : i = p.cons.length := by omega
    subst this
    simp -dsimp
    refine condX_dec (fun h0 => ?_) (fun h0 => ?_)
    · simp -dsimp [h0, hv]
      refine retP_c ?_
      simp -dsimp [hx, solvF, h0]
    · simp -dsimp [h0]
      refine retP_c ?_
      simp -dsimp [hx, solvF, h0]
def maskI (n : Nat) : Int := IntKind.i64.wrap (shlI 1 n - 1)
theorem every_spec (p : Pz) : PCall Try.prog 62 [ePz p] (pI (maskI p.cons.length)) [] := by
  refine pcall_wp _ Try.func62 rfl (by kernel_rfl) rfl ?_
  simp -dsimp
  refine retP_c ?_
  simp -dsimp [maskI]
theorem all_spec (p : Pz) : PCall Try.prog 60 [ePz p] (pI (maskI p.cons.length)) [] := by
  refine pcall_wp _ Try.func60 rfl (by kernel_rfl) rfl ?_
  simp -dsimp
  refine retP_c ?_
  simp -dsimp [maskI]
end Go.Proofs.Ytmneioafbkknhaa
