/- PS2: what a step does to the relation between a state and a world: a new block, a write, an append, forgetting. -/
import Derived.Test.YtmneioafbkknhaaPS1
set_option linter.unusedVariables false
namespace Go.PS
open Go Go.RowKit

theorem ResRep.keep {w w' : World} {φ : Nat → Value} {St St' : Kind → Nat → Prop} {r : Res} {v : Value} {F : Nat → Prop} (hF : ∀ g, F g → w'.heap[g]? = w.heap[g]?)
    (hc : ∀ k g, St k g → w'.heap[g]? = w.heap[g]?) (hS : ∀ k g, St k g → St' k g) (h : ResRep w φ St r v F) : ResRep w' φ St' r v F := by
  cases r with
  | dead => exact h
  | blk ty cs =>
    obtain ⟨g, vs, hv, hg, hh, hs, hr⟩ := h
    exact ⟨g, vs, hv, hg, (hF g ((hg g).2 rfl)).trans hh, hs, fun j x hx => (hr j x hx).mono hc hS⟩
  | row ty sz k xs =>
    obtain ⟨cells, ho, hb, hl, hr⟩ := h
    refine ⟨cells, ?_, hb, hl, fun i j e x he hx => (hr i j e x he hx).mono (hc _) (hS _)⟩
    rcases ho with ⟨ho, hg⟩ | ho
    · refine .inl ⟨⟨ho.1, ?_⟩, hg⟩
      rcases ho.2 with h0 | ⟨g, cap, cur, hv, hb', hh, rest⟩
      · exact .inl h0
      · refine .inr ⟨g, cap, cur, hv, hb', ?_, rest⟩
        rw [hF g ((hg g).2 (by rw [hv]; rfl))]
        exact hh
    · exact .inr ho

theorem ResRep.rename {w : World} {φ φ' : Nat → Value} {St : Kind → Nat → Prop} {r : Res} {v : Value} {F : Nat → Prop} (hm : ∀ m, r.men m = true → φ' m = φ m) (h : ResRep w φ St r v F) : ResRep w φ' St r v F := by
  cases r with
  | dead => exact h
  | blk ty cs =>
    obtain ⟨g, vs, hv, hg, hh, hs, hr⟩ := h
    refine ⟨g, vs, hv, hg, hh, hs, fun j x hx => (hr j x hx).rename fun m hxm => hm m ?_⟩
    cases hb : PV.menL m cs with
    | true => simpa [Res.men] using hb
    | false => rw [PV.menL_get hx hb] at hxm; cases hxm
  | row ty sz k xs => exact h

theorem getT_men {m : Nat} : ∀ {T : List (Nat × PV)}, T.all (fun p => !p.2.men m) = true → ∀ t, (getT T t).men m = false
  | [], _, t => rfl
  | (k, p) :: T, h, t => by
    simp only [List.all_cons, Bool.and_eq_true, Bool.not_eq_true'] at h
    simp only [getT]
    by_cases e : k = t
    · rw [if_pos e]; exact h.1
    · rw [if_neg e]; exact getT_men (by simpa using h.2) t

theorem getM_men {m : Nat} : ∀ {M : List (Nat × Res)}, M.all (fun p => !p.2.men m) = true → ∀ t, (getM M t).men m = false
  | [], _, t => rfl
  | (k, p) :: M, h, t => by
    simp only [List.all_cons, Bool.and_eq_true, Bool.not_eq_true'] at h
    simp only [getM]
    by_cases e : k = t
    · rw [if_pos e]; exact h.1
    · rw [if_neg e]; exact getM_men (by simpa using h.2) t

def Res.isDead : Res → Bool
  | .dead => true
  | _ => false

theorem Res.eq_dead {r : Res} (h : r.isDead = true) : r = .dead := by cases r <;> simp [Res.isDead] at h ⊢

/-- The name d is nobody's. -/
def StL.free (s : StL) (d : Nat) : Bool := s.T.all (fun p => !p.2.men d) && s.M.all (fun p => !p.2.men d) && ((getM s.M d).isDead && decide (d < 1000000))

section upd
variable {w0 : Base} {F0 : Nat → Prop} {n : Nat} {s : StL} {a : Act} {w : World} {φ : Nat → Value} {fp : Nat → Nat → Prop}

/-- Nothing of what the state speaks of has turned. -/
theorem SimX.same (h : SimX w0 F0 n s a w φ fp) {w' : World} (hh : w'.heap = w.heap) (ho : w'.os = w.os) (ht : w'.tape = w.tape) (hout : w'.output = w.output) : SimX w0 F0 n s a w' φ fp := by
  have hS : ∀ k g, Stb w0 w fp k g → Stb w0 w' fp k g := fun k g hg => ⟨by rw [hh]; exact hg.1, hg.2⟩
  refine ⟨fun m => (h.res m).keep (fun g _ => by rw [hh]) (fun k g _ => by rw [hh]) hS, h.disj, fun m g hm => by rw [hh]; exact h.old m g hm, fun t => (h.tmp t).mono (fun k g _ => by rw [hh]) hS, ?_, h.size, h.dfr, h.fix⟩
  exact ⟨ho.trans h.evo.os, ht.trans h.evo.tape, hout.trans h.evo.output, by rw [hh]; exact h.evo.size, fun g hg hF => by rw [hh]; exact h.evo.block g hg hF⟩

/-- Temporaries may be forgotten. -/
theorem SimX.weakT (h : SimX w0 F0 n s a w φ fp) {T : List (Nat × PV)} (hT : ∀ t, getT T t = getT s.T t ∨ getT T t = .undef) : SimX w0 F0 n ⟨T, s.M⟩ a w φ fp :=
  ⟨h.res, h.disj, h.old, fun t => by
    rcases hT t with e | e
    · show PVRep _ _ _ (getT T t) _
      rw [e]; exact h.tmp t
    · show PVRep _ _ _ (getT T t) _
      rw [e]; exact .undef _, h.evo, h.size, h.dfr, h.fix⟩

/-- Names may be given up. -/
theorem SimX.weakM (h : SimX w0 F0 n s a w φ fp) {M : List (Nat × Res)} (hM : ∀ m, getM M m = getM s.M m ∨ getM M m = .dead) : ∃ fp', SimX w0 F0 n ⟨s.T, M⟩ a w φ fp' := by
  refine ⟨fun m g => fp m g ∧ getM M m ≠ .dead, ?_⟩
  have hS : ∀ k g, Stb w0 w fp k g → Stb w0 w (fun m g => fp m g ∧ getM M m ≠ .dead) k g := fun k g hg => ⟨hg.1, fun m hm => hg.2.1 m hm.1, hg.2.2⟩
  refine ⟨fun m => ?_, fun m m' g h1 h2 => h.disj m m' g h1.1 h2.1, fun m g hm => h.old m g hm.1, fun t => (h.tmp t).mono (fun k g _ => rfl) hS, h.evo, h.size, h.dfr, h.fix⟩
  show ResRep _ _ _ (getM M m) _ _
  by_cases hd : getM M m = .dead
  · rw [hd]
    intro g hg
    exact hg.2 rfl
  · have e := (hM m).resolve_right hd
    have hF : (fun g => fp m g ∧ getM M m ≠ .dead) = fp m := by
      funext g; simp [hd]
    rw [hF, e]
    exact (h.res m).keep (fun g _ => rfl) (fun k g _ => rfl) hS

/-- A new block under a free name. -/
theorem SimX.new (h : SimX w0 F0 n s a w φ fp) {d : Nat} (hd : s.free d = true) {o : Obj} {r : Res} {v : Value}
    (hr : ∀ φ' fp', (∀ m, m ≠ d → φ' m = φ m) → φ' d = v → (∀ k g, Stb w0 w fp k g → Stb w0 (w.alloc o) fp' k g) → (∀ k g, Stb w0 w fp k g → (w.alloc o).heap[g]? = w.heap[g]?) → ResRep (w.alloc o) φ' (Stb w0 (w.alloc o) fp') r v (fun g => g = w.heap.size)) :
    ∃ φ' fp', SimX w0 F0 n ⟨s.T, (d, r) :: s.M⟩ a (w.alloc o) φ' fp' ∧ (∀ m, m ≠ d → φ' m = φ m) ∧ φ' d = v := by
  simp only [StL.free, Bool.and_eq_true, decide_eq_true_eq] at hd
  obtain ⟨⟨hdT, hdM⟩, hdd, hd6⟩ := hd
  have hdead := Res.eq_dead hdd
  let φ' : Nat → Value := fun m => if m = d then v else φ m
  let fp' : Nat → Nat → Prop := fun m g => if m = d then g = w.heap.size else fp m g
  have hne : ∀ m, m ≠ d → φ' m = φ m := fun m hm => by simp [φ', hm]
  have hfd : ∀ g, ¬ fp d g := by
    have := h.res d
    rw [hdead] at this
    exact this
  have hold : ∀ g, g < w.heap.size → (w.alloc o).heap[g]? = w.heap[g]? := fun g hg => Below.heap_alloc w o g hg
  have hsz : (w.alloc o).heap.size = w.heap.size + 1 := by simp
  have hS : ∀ k g, Stb w0 w fp k g → Stb w0 (w.alloc o) fp' k g := by
    intro k g hg
    refine ⟨by rw [hsz]; exact Nat.lt_succ_of_lt hg.1, fun m hm => ?_, hg.2.2⟩
    simp only [fp'] at hm
    by_cases e : m = d
    · rw [if_pos e] at hm; have := hg.1; omega
    · rw [if_neg e] at hm; exact hg.2.1 m hm
  have hSc : ∀ k g, Stb w0 w fp k g → (w.alloc o).heap[g]? = w.heap[g]? := fun k g hg => hold g hg.1
  refine ⟨φ', fp', ⟨fun m => ?_, fun m m' g h1 h2 => ?_, fun m g hm => ?_, fun t => ?_, ?_, h.size, h.dfr, fun m hm => (hne m (by omega)).trans (h.fix m hm)⟩, hne, by simp [φ']⟩
  · show ResRep _ _ _ (getM ((d, r) :: s.M) m) _ _
    simp only [getM]
    by_cases e : d = m
    · subst e
      rw [if_pos rfl]
      have e1 : fp' d = fun g => g = w.heap.size := by funext g; simp [fp']
      have e2 : φ' d = v := by simp [φ']
      rw [e1, e2]
      exact hr φ' fp' hne e2 hS hSc
    · rw [if_neg e]
      have e1 : fp' m = fp m := by funext g; simp [fp', Ne.symm e]
      rw [e1, hne m (Ne.symm e)]
      refine ((h.res m).keep (fun g hg => hold g (h.old m g hg).1) hSc hS).rename fun m' hm' => hne m' ?_
      rintro rfl
      have := getM_men hdM m
      rw [this] at hm'; cases hm'
  · simp only [fp'] at h1 h2
    by_cases e1 : m = d <;> by_cases e2 : m' = d
    · rw [e1, e2]
    · rw [if_pos e1] at h1; rw [if_neg e2] at h2
      have := (h.old m' g h2).1; omega
    · rw [if_neg e1] at h1; rw [if_pos e2] at h2
      have := (h.old m g h1).1; omega
    · rw [if_neg e1] at h1; rw [if_neg e2] at h2
      exact h.disj m m' g h1 h2
  · simp only [fp'] at hm
    rw [hsz]
    by_cases e1 : m = d
    · rw [if_pos e1] at hm
      have := h.evo.size
      exact ⟨by omega, .inr (by omega)⟩
    · rw [if_neg e1] at hm
      have := h.old m g hm
      exact ⟨by omega, this.2⟩
  · refine ((h.tmp t).mono hSc hS).rename fun m' hm' => hne m' ?_
    rintro rfl
    have := getT_men hdT t
    rw [this] at hm'; cases hm'
  · exact ⟨h.evo.os, h.evo.tape, h.evo.output, by rw [hsz]; have := h.evo.size; omega, fun g hg hF => (hold g (Nat.lt_of_lt_of_le hg h.evo.size)).trans (h.evo.block g hg hF)⟩

/-- A write to the block of a name. -/
theorem SimX.write (h : SimX w0 F0 n s a w φ fp) {m0 : Nat} {r : Res} {w' : World} (ho : w'.os = w.os) (ht : w'.tape = w.tape) (hout : w'.output = w.output) (hsz : w'.heap.size = w.heap.size)
    (hother : ∀ g, ¬ fp m0 g → w'.heap[g]? = w.heap[g]?)
    (hr : ∀ (hS : ∀ k g, Stb w0 w fp k g → Stb w0 w' fp k g), (∀ k g, Stb w0 w fp k g → w'.heap[g]? = w.heap[g]?) → ResRep w' φ (Stb w0 w' fp) r (φ m0) (fp m0)) :
    SimX w0 F0 n ⟨s.T, (m0, r) :: s.M⟩ a w' φ fp := by
  have hS : ∀ k g, Stb w0 w fp k g → Stb w0 w' fp k g := fun k g hg => ⟨by rw [hsz]; exact hg.1, hg.2⟩
  have hSc : ∀ k g, Stb w0 w fp k g → w'.heap[g]? = w.heap[g]? := fun k g hg => hother g (hg.2.1 m0)
  refine ⟨fun m => ?_, h.disj, fun m g hm => by rw [hsz]; exact h.old m g hm, fun t => (h.tmp t).mono hSc hS, ?_, h.size, h.dfr, h.fix⟩
  · show ResRep _ _ _ (getM ((m0, r) :: s.M) m) _ _
    simp only [getM]
    by_cases e : m0 = m
    · subst e
      rw [if_pos rfl]
      exact hr hS hSc
    · rw [if_neg e]
      exact (h.res m).keep (fun g hg => hother g fun hg' => e (h.disj m0 m g hg' hg)) hSc hS
  · refine ⟨ho.trans h.evo.os, ht.trans h.evo.tape, hout.trans h.evo.output, by rw [hsz]; exact h.evo.size, fun g hg hF => ?_⟩
    refine (hother g fun hm => ?_).trans (h.evo.block g hg hF)
    rcases (h.old m0 g hm).2 with h1 | h1
    · exact hF h1
    · omega

end upd
end Go.PS
