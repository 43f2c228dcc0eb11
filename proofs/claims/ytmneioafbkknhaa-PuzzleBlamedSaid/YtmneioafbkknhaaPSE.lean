/- PSE: contracts of calls that may change memory handed to them by name. -/
import Derived.Test.YtmneioafbkknhaaPS12
set_option linter.unusedVariables false
set_option linter.unusedSimpArgs false
namespace Go.PS
open Go Go.RowKit

/-- Pairs (a caller's name, the callee's name). -/
abbrev Sg := List (Nat × Nat)
def Sg.to : Sg → Nat → Option Nat
  | [], _ => none
  | (c, e) :: l, m => if c = m then some e else Sg.to l m
def Sg.bk : Sg → Nat → Option Nat
  | [], _ => none
  | (c, e) :: l, m => if e = m then some c else Sg.bk l m
def Sg.ok (g : Sg) : Bool := g.all fun p => g.to p.1 == some p.2 && g.bk p.2 == some p.1 && (decide (p.1 < 1000000) || decide (1000000 ≤ p.2))

theorem Sg.to_mem {m e : Nat} : ∀ {g : Sg}, g.to m = some e → (m, e) ∈ g
  | [], h => by simp [Sg.to] at h
  | (c, e') :: l, h => by
    simp only [Sg.to] at h
    split at h
    · rename_i hc
      cases h
      subst hc
      exact List.mem_cons_self
    · exact List.mem_cons_of_mem _ (Sg.to_mem h)
theorem Sg.bk_mem {m e : Nat} : ∀ {g : Sg}, g.bk e = some m → (m, e) ∈ g
  | [], h => by simp [Sg.bk] at h
  | (c, e') :: l, h => by
    simp only [Sg.bk] at h
    split at h
    · rename_i hc
      cases h
      subst hc
      exact List.mem_cons_self
    · exact List.mem_cons_of_mem _ (Sg.bk_mem h)
theorem Sg.ok_at {g : Sg} (h : g.ok = true) {m e : Nat} (hm : (m, e) ∈ g) : g.to m = some e ∧ g.bk e = some m ∧ (m < 1000000 ∨ 1000000 ≤ e) := by
  have := List.all_eq_true.1 h _ hm
  simpa [and_assoc] using this

mutual
/-- A caller's value, as the callee sees it. -/
def PV.mp (f : Nat → Option Nat) (nk : Bool) : PV → PV
  | .t k (.v x) => if nk then .t .fz (.v x) else .t k (.v x)
  | .t k x => if nk then .t .ro x else .t k x
  | .ptr n off => match f n with
    | some m => .ptr m off
    | none => .undef
  | .osl n => match f n with
    | some m => .osl m
    | none => .undef
  | .oep n sz i off => match f n with
    | some m => .oep m sz i off
    | none => .undef
  | .omp n => match f n with
    | some m => .omp m
    | none => .undef
  | .clo g caps => .clo g (PV.mpL f nk caps)
  | .agg cs => .agg (PV.mpL f nk cs)
  | .tup cs => .tup (PV.mpL f nk cs)
  | .undef => .undef
def PV.mpL (f : Nat → Option Nat) (nk : Bool) : List PV → List PV
  | [] => []
  | x :: l => PV.mp f nk x :: PV.mpL f nk l
end

def Res.mp (f : Nat → Option Nat) (nk : Bool) : Res → Res
  | .dead => .dead
  | .blk ty cs => .blk ty (PV.mpL f nk cs)
  | .row ty sz k xs => .row ty sz (if nk then .ro else k) xs

theorem PV.mpL_get (f : Nat → Option Nat) (nk : Bool) : ∀ (l : List PV) (j : Nat), (PV.mpL f nk l)[j]? = (l[j]?).map (PV.mp f nk)
  | [], j => by simp [PV.mpL]
  | x :: l, 0 => by simp [PV.mpL]
  | x :: l, j + 1 => by simp [PV.mpL, PV.mpL_get f nk l j]
theorem PV.mpL_length (f : Nat → Option Nat) (nk : Bool) : ∀ (l : List PV), (PV.mpL f nk l).length = l.length
  | [] => rfl
  | x :: l => by simp [PV.mpL, PV.mpL_length f nk l]

theorem PVRep.mp {w : World} {φ φ' : Nat → Value} {St St' : Kind → Nat → Prop} {f : Nat → Option Nat} {nk : Bool} (hφ : ∀ n m, f n = some m → φ' m = φ n)
    (hk : ∀ k g, St k g → St' (if nk then .ro else k) g) {x : PV} {v : Value} (h : PVRep w φ St x v) : PVRep w φ' St' (x.mp f nk) v := by
  induction h with
  | @t k x v h =>
    cases x with
    | v y =>
      have := h.v_inv
      subst this
      simp only [PV.mp]
      split
      · exact .t (.v _)
      · exact .t (.v _)
    | _ =>
      simp only [PV.mp]
      have h' := h.mono (S' := St' (if nk then .ro else k)) (fun _ _ => rfl) (hk k)
      split
      · rename_i hn
        rw [if_pos hn] at h'
        exact .t h'
      · rename_i hn
        rw [if_neg hn] at h'
        exact .t h'
  | @ptr n off g h =>
    simp only [PV.mp]
    cases hf : f n with
    | none => exact .undef _
    | some m => exact .ptr ((hφ n m hf).trans h)
  | @osl n len cap ao h =>
    simp only [PV.mp]
    cases hf : f n with
    | none => exact .undef _
    | some m => exact .osl ((hφ n m hf).trans h)
  | @oep n sz i off g len cap h =>
    simp only [PV.mp]
    cases hf : f n with
    | none => exact .undef _
    | some m => exact .oep ((hφ n m hf).trans h)
  | @omp n r h =>
    simp only [PV.mp]
    cases hf : f n with
    | none => exact .undef _
    | some m => exact .omp ((hφ n m hf).trans h)
  | clo vs hs hrep ih =>
    simp only [PV.mp]
    refine .clo vs (by rw [PV.mpL_length]; exact hs) fun j x hx => ?_
    rw [PV.mpL_get] at hx
    obtain ⟨y, hy, rfl⟩ := Option.map_eq_some_iff.1 hx
    exact ih j y hy
  | agg vs hs hrep ih =>
    simp only [PV.mp]
    refine .agg vs (by rw [PV.mpL_length]; exact hs) fun j x hx => ?_
    rw [PV.mpL_get] at hx
    obtain ⟨y, hy, rfl⟩ := Option.map_eq_some_iff.1 hx
    exact ih j y hy
  | tup vs hs hrep ih =>
    simp only [PV.mp]
    refine .tup vs (by rw [PV.mpL_length]; exact hs) fun j x hx => ?_
    rw [PV.mpL_get] at hx
    obtain ⟨y, hy, rfl⟩ := Option.map_eq_some_iff.1 hx
    exact ih j y hy
  | undef v => exact .undef _

theorem ResRep.mp {w : World} {φ φ' : Nat → Value} {St St' : Kind → Nat → Prop} {f : Nat → Option Nat} {nk : Bool} (hφ : ∀ n m, f n = some m → φ' m = φ n)
    (hk : ∀ k g, St k g → St' (if nk then .ro else k) g) {r : Res} {v : Value} {F : Nat → Prop} (h : ResRep w φ St r v F) : ResRep w φ' St' (r.mp f nk) v F := by
  cases r with
  | dead => exact h
  | blk ty cs =>
    obtain ⟨g, vs, hv, hF, hh, hs, hr⟩ := h
    refine ⟨g, vs, hv, hF, hh, by rw [PV.mpL_length]; exact hs, fun j x hx => ?_⟩
    rw [PV.mpL_get] at hx
    obtain ⟨y, hy, rfl⟩ := Option.map_eq_some_iff.1 hx
    exact (hr j y hy).mp hφ hk
  | row ty sz k xs =>
    obtain ⟨cells, ho, hb, hl, hr⟩ := h
    exact ⟨cells, ho, hb, hl, fun i j e x he hx => (hr i j e x he hx).mono (fun _ _ => rfl) (hk k)⟩

/-- Where a callee began that was handed memory by name. -/
abbrev Base.on (w : World) (S : Nat → Prop) (φ : Nat → Value) (fp : Nat → Nat → Prop) : Base := ⟨w, S, fun g => ∃ m, fp m g, φ⟩

/-- What a callee is handed. -/
structure Handed (w : World) (S : Nat → Prop) (φ : Nat → Value) (fp : Nat → Nat → Prop) (args : List PV) (M : List (Nat × Res)) (vals : Array Value) : Prop where
  stays : ∀ g, S g → g < w.heap.size ∧ ∀ m, ¬ fp m g
  size : vals.size = args.length
  res : ∀ m, ResRep w φ (fun k g => k = .ro ∧ S g) (getM M m) (φ m) (fp m)
  disj : ∀ m m' g, fp m g → fp m' g → m = m'
  lt : ∀ m g, fp m g → g < w.heap.size
  args : ∀ (i : Nat) (x : PV), args[i]? = some x → PVRep w φ (fun k g => k = .ro ∧ S g) x (vals.getD i Go.undef)

/-- What a callee hands back. -/
structure Back (w : World) (S : Nat → Prop) (φ : Nat → Value) (fp : Nat → Nat → Prop) (r : PV) (M' : List (Nat × Res)) (w' : World) (v : Value) (φ' : Nat → Value) (fp' : Nat → Nat → Prop) : Prop where
  evo : Evo (fun g => ∃ m, fp m g) w w'
  res : ∀ m, ResRep w' φ' (Stb (Base.on w S φ fp) w' fp') (getM M' m) (φ' m) (fp' m)
  disj : ∀ m m' g, fp' m g → fp' m' g → m = m'
  old : ∀ m g, fp' m g → g < w'.heap.size ∧ ((∃ m', fp m' g) ∨ w.heap.size ≤ g)
  fix : ∀ m, 1000000 ≤ m → φ' m = φ m
  val : PVRep w' φ' (Stb (Base.on w S φ fp) w' fp') r v

/-- Called with these values, the memory M in hand, the function returns r and leaves M'. -/
def ECall (P : Program) (f : FuncId) (args : List PV) (M : List (Nat × Res)) (r : PV) (M' : List (Nat × Res)) : Prop :=
  Callable P f ∧ ∀ (w : World) (S : Nat → Prop) (φ : Nat → Value) (fp : Nat → Nat → Prop) (vals : Array Value), Handed w S φ fp args M vals →
    Calls P f vals w fun e w' => ∃ v φ' fp', e = .returned v ∧ Back w S φ fp r M' w' v φ' fp'

theorem getM_none {m : Nat} : ∀ {M : List (Nat × Res)}, (∀ q ∈ M, q.1 ≠ m) → getM M m = .dead
  | [], _ => rfl
  | (k, r) :: M, h => by
    simp only [getM]
    rw [if_neg (h (k, r) (by simp)), getM_none fun q hq => h q (List.mem_cons_of_mem _ hq)]

/-- Names whose value may have turned are forgotten. -/
def StL.kills (s : StL) : Sg → StL
  | [] => s
  | (c, e) :: l => if e < 1000000 then (StL.kills s l).kill c else StL.kills s l
def backM (g0 : Sg) (M' : List (Nat × Res)) (M : List (Nat × Res)) : Sg → List (Nat × Res)
  | [] => M
  | (c, e) :: l => (c, (getM M' e).mp g0.bk false) :: backM g0 M' M l
/-- The state behind such a call. -/
def retE (s : StL) (d : Nat) (g : Sg) (r : PV) (M' : List (Nat × Res)) : StL := ⟨(d, r.mp g.bk false) :: (s.kills g).T, backM g M' (s.kills g).M g⟩

theorem getM_backM_hit {g0 : Sg} {M' M : List (Nat × Res)} {c e : Nat} : ∀ {g : Sg}, g.to c = some e → getM (backM g0 M' M g) c = (getM M' e).mp g0.bk false
  | [], h => by simp [Sg.to] at h
  | (c', e') :: l, h => by
    simp only [Sg.to] at h
    simp only [backM, getM]
    split
    · rename_i hc
      rw [if_pos hc] at h
      cases h
      rfl
    · rename_i hc
      rw [if_neg hc] at h
      exact getM_backM_hit h
theorem getM_backM_miss {g0 : Sg} {M' M : List (Nat × Res)} {c : Nat} : ∀ {g : Sg}, g.to c = none → getM (backM g0 M' M g) c = getM M c
  | [], h => rfl
  | (c', e') :: l, h => by
    simp only [Sg.to] at h
    simp only [backM, getM]
    split
    · rename_i hc
      rw [if_pos hc] at h
      cases h
    · rename_i hc
      rw [if_neg hc] at h
      exact getM_backM_miss h

section
variable {P : Program} {w0 : Base} {F0 : Nat → Prop} {n : Nat} {s : StL} {a : Act} {w : World} {φ : Nat → Value} {fp : Nat → Nat → Prop}

theorem SimX.kills (h : SimX w0 F0 n s a w φ fp) : ∀ g : Sg, SimX w0 F0 n (s.kills g) a w φ fp
  | [] => h
  | (c, e) :: l => by
    simp only [StL.kills]
    split
    · exact (SimX.kills h l).kill c
    · exact SimX.kills h l

theorem all_killT (m c : Nat) {T : List (Nat × PV)} (h : T.all (fun p => !p.2.men m) = true) : (killT c T).all (fun p => !p.2.men m) = true := by
  rw [killT, List.all_map, List.all_eq_true]
  intro p hp
  have := List.all_eq_true.1 h p hp
  simp only [Function.comp]
  split
  · rfl
  · exact this
theorem menL_killed (m c : Nat) {cs : List PV} (h : PV.menL m cs = false) : PV.menL m (cs.map fun x => if x.men c then .undef else x) = false := by
  induction cs with
  | nil => rfl
  | cons x cs ih =>
    simp only [PV.menL, Bool.or_eq_false_iff] at h
    simp only [List.map_cons, PV.menL, ih h.2, Bool.or_false]
    split
    · rfl
    · exact h.1
theorem all_killM (m c : Nat) {M : List (Nat × Res)} (h : M.all (fun p => !p.2.men m) = true) : (killM c M).all (fun p => !p.2.men m) = true := by
  rw [killM, List.all_map, List.all_eq_true]
  intro p hp
  have := List.all_eq_true.1 h p hp
  simp only [Function.comp]
  obtain ⟨k, r⟩ := p
  cases r with
  | dead => rfl
  | row => rfl
  | blk ty cs =>
    simp only [Res.kill, Res.men, Bool.not_eq_true'] at this ⊢
    exact menL_killed m c this

theorem kills_men {c e : Nat} (he : e < 1000000) : ∀ {g : Sg}, (c, e) ∈ g → (s.kills g).T.all (fun p => !p.2.men c) = true ∧ (s.kills g).M.all (fun p => !p.2.men c) = true
  | [], h => by cases h
  | (c', e') :: l, h => by
    simp only [StL.kills]
    rcases List.mem_cons.1 h with h | h
    · cases h
      rw [if_pos he]
      exact ⟨killT_men c _, killM_men c _⟩
    · obtain ⟨h1, h2⟩ := kills_men he h
      split
      · exact ⟨all_killT _ _ h1, all_killM _ _ h2⟩
      · exact ⟨h1, h2⟩

/-- A call that may change memory handed to it. -/
theorem ecall_sim (h : SimX w0 F0 n s a w φ fp) {f d : Nat} {pvs args : List PV} {M M' : List (Nat × Res)} {vals : Array Value} {r : PV} (g : Sg) (hdn : d < n)
    (hv : vals.size = pvs.length) (hp : ∀ (j : Nat) (p : PV), pvs[j]? = some p → PVRep w φ (Stb w0 w fp) p (vals.getD j Go.undef)) (hc : ECall P f args M r M')
    (hok : g.ok = true) (hargs : PV.mpL g.to true pvs = args) (hM : ∀ p ∈ g, getM M p.2 = (getM s.M p.1).mp g.to true) (hM' : M.all (fun q => (g.bk q.1).isSome) = true) :
    Calls P f vals w fun e w' => ∃ v, e = .returned v ∧ Sim w0 F0 n (retE s d g r M') (a.put (some d) v) w' := by
  have hto : ∀ c e, g.to c = some e ↔ g.bk e = some c := fun c e => ⟨fun h => (Sg.ok_at hok (Sg.to_mem h)).2.1, fun h => (Sg.ok_at hok (Sg.bk_mem h)).1⟩
  let φc : Nat → Value := fun m => match g.bk m with
    | some c => φ c
    | none => Go.undef
  let fpc : Nat → Nat → Prop := fun m x => ∃ c, g.bk m = some c ∧ fp c x
  have eφ : ∀ c e, g.to c = some e → φc e = φ c := fun c e he => by simp only [φc, (hto c e).1 he]
  have efp : ∀ c e, g.to c = some e → fpc e = fp c := fun c e he => by
    funext x
    simp only [fpc, (hto c e).1 he, Option.some.injEq, exists_eq_left']
  have hStk : ∀ k x, Stb w0 w fp k x → Stb w0 w fp .ro x := fun k x hx => ⟨hx.1, hx.2.1, hx.2.2.imp id fun e => ⟨rfl, e.2⟩⟩
  have hH : Handed w (Stb w0 w fp .ro) φc fpc args M vals := by
    refine ⟨fun x hx => ⟨hx.1, fun m ⟨c, _, hm⟩ => hx.2.1 c hm⟩, by rw [← hargs, PV.mpL_length]; exact hv, fun m => ?_, ?_, fun m x ⟨c, _, hm⟩ => (h.old c x hm).1, fun i x hx => ?_⟩
    · cases hb : g.bk m with
      | none =>
        rw [getM_none fun q hq e => by
          have := List.all_eq_true.1 hM' q hq
          rw [e, hb] at this
          cases this]
        rintro x ⟨c, hc, _⟩
        rw [hb] at hc
        cases hc
      | some c =>
        have ht := (hto c m).2 hb
        rw [hM _ (Sg.bk_mem hb), eφ c m ht, efp c m ht]
        exact (h.res c).mp eφ (fun k x hx => by simpa using hStk k x hx)
    · rintro m m' x ⟨c, h1, h2⟩ ⟨c', h3, h4⟩
      have := h.disj c c' x h2 h4
      subst this
      have e1 := (hto c m).2 h1
      rw [(hto c m').2 h3] at e1
      cases e1
      rfl
    · rw [← hargs, PV.mpL_get] at hx
      obtain ⟨y, hy, rfl⟩ := Option.map_eq_some_iff.1 hx
      exact (hp i y hy).mp eφ (fun k x hx => by simpa using hStk k x hx)
  refine (hc.2 w (Stb w0 w fp .ro) φc fpc vals hH).mono ?_
  rintro e w' ⟨v, φ', fp', rfl, hB⟩
  refine ⟨v, rfl, ?_⟩
  have hFp : ∀ x, (∃ m, fpc m x) → ∃ c e, g.to c = some e ∧ fp c x := fun x ⟨m, c, h1, h2⟩ => ⟨c, m, (hto c m).2 h1, h2⟩
  have hheap : ∀ x, x < w.heap.size → (∀ c e, g.to c = some e → ¬ fp c x) → w'.heap[x]? = w.heap[x]? := fun x hx hn => hB.evo.block x hx fun hF => by
    obtain ⟨c, e, h1, h2⟩ := hFp x hF
    exact hn c e h1 h2
  let φ1 : Nat → Value := fun c => match g.to c with
    | some e => φ' e
    | none => φ c
  let fp1 : Nat → Nat → Prop := fun c x => match g.to c with
    | some e => fp' e x
    | none => fp c x
  have e1φ : ∀ c e, g.to c = some e → φ1 c = φ' e := fun c e he => by simp only [φ1, he]
  have e1fp : ∀ c e, g.to c = some e → fp1 c = fp' e := fun c e he => by funext x; simp only [fp1, he]
  have e0φ : ∀ c, g.to c = none → φ1 c = φ c := fun c he => by simp only [φ1, he]
  have e0fp : ∀ c, g.to c = none → fp1 c = fp c := fun c he => by funext x; simp only [fp1, he]
  have hfix : ∀ c e, g.to c = some e → 1000000 ≤ e → φ1 c = φ c := fun c e he h6 => by rw [e1φ c e he, hB.fix e h6, eφ c e he]
  have hS : ∀ k x, Stb w0 w fp k x → Stb w0 w' fp1 k x := by
    intro k x hx
    refine ⟨Nat.lt_of_lt_of_le hx.1 hB.evo.size, fun c hcx => ?_, hx.2.2⟩
    cases ht : g.to c with
    | none => rw [e0fp c ht] at hcx; exact hx.2.1 c hcx
    | some e =>
      rw [e1fp c e ht] at hcx
      rcases (hB.old e x hcx).2 with h1 | h1
      · obtain ⟨c', _, _, h2⟩ := hFp x h1
        exact hx.2.1 c' h2
      · have := hx.1; omega
  have hSc : ∀ k x, Stb w0 w fp k x → w'.heap[x]? = w.heap[x]? := fun k x hx => hheap x hx.1 fun c e _ => hx.2.1 c
  have hSb : ∀ k x, Stb (Base.on w (Stb w0 w fp .ro) φc fpc) w' fp' k x → Stb w0 w' fp1 (if false then .ro else k) x := by
    intro k x hx
    refine ⟨hx.1, fun c hcx => ?_, ?_⟩
    · cases ht : g.to c with
      | some e => rw [e1fp c e ht] at hcx; exact hx.2.1 e hcx
      | none =>
        rw [e0fp c ht] at hcx
        rcases hx.2.2 with (h1 | h1) | ⟨_, h1⟩
        · have := (h.old c x hcx).1
          have h1' : w.heap.size ≤ x := h1
          omega
        · obtain ⟨c', e', h2, h3⟩ := hFp x h1
          have := h.disj c c' x hcx h3
          subst this
          rw [ht] at h2
          cases h2
        · exact h1.2.1 c hcx
    · simp only [Bool.false_eq_true, if_false]
      rcases hx.2.2 with (h1 | h1) | ⟨rfl, h1⟩
      · have := h.evo.size
        have h1' : w.heap.size ≤ x := h1
        exact .inl (.inl (by omega))
      · obtain ⟨c', e', h2, h3⟩ := hFp x h1
        rcases (h.old c' x h3).2 with h4 | h4
        · exact .inl (.inr (h.dfr.2 x h4))
        · exact .inl (.inl h4)
      · exact h1.2.2
  have hbkφ : ∀ n m, g.bk n = some m → φ1 m = φ' n := fun n m hb => e1φ m n ((hto m n).2 hb)
  have hk := h.kills g
  have hren : ∀ m, ((s.kills g).T.all (fun p => !p.2.men m) = true ∧ (s.kills g).M.all (fun p => !p.2.men m) = true) ∨ φ1 m = φ m := by
    intro m
    cases ht : g.to m with
    | none => exact .inr (e0φ m ht)
    | some e =>
      rcases Nat.lt_or_ge e 1000000 with h6 | h6
      · exact .inl (kills_men h6 (Sg.to_mem ht))
      · exact .inr (hfix m e ht h6)
  refine ⟨φ1, fp1, SimX.put (s := ⟨(s.kills g).T, backM g M' (s.kills g).M g⟩) ⟨fun c => ?_, fun c c' x h1 h2 => ?_, fun c x hcx => ?_, fun t => ?_, ?_, h.size, h.dfr, fun c h6 => ?_⟩ hdn (hB.val.mp hbkφ hSb)⟩
  · show ResRep _ _ _ (getM (backM g M' (s.kills g).M g) c) _ _
    cases ht : g.to c with
    | some e =>
      rw [getM_backM_hit ht, e1φ c e ht, e1fp c e ht]
      exact (hB.res e).mp hbkφ hSb
    | none =>
      rw [getM_backM_miss ht, e0φ c ht, e0fp c ht]
      refine ((hk.res c).keep (fun x hx => hheap x (h.old c x hx).1 fun c' e' h1 h2 => ?_) hSc hS).rename fun m hm => ?_
      · have := h.disj c c' x hx h2
        subst this
        rw [ht] at h1
        cases h1
      · rcases hren m with h1 | h1
        · rw [getM_men h1.2 c] at hm
          cases hm
        · exact h1
  · cases ht : g.to c with
    | some e =>
      rw [e1fp c e ht] at h1
      cases ht' : g.to c' with
      | some e' =>
        rw [e1fp c' e' ht'] at h2
        have := hB.disj e e' x h1 h2
        subst this
        have h3 := (hto c e).1 ht
        rw [(hto c' e).1 ht'] at h3
        cases h3
        rfl
      | none =>
        rw [e0fp c' ht'] at h2
        rcases (hB.old e x h1).2 with h3 | h3
        · obtain ⟨c2, e2, h4, h5⟩ := hFp x h3
          have := h.disj c' c2 x h2 h5
          subst this
          rw [ht'] at h4
          cases h4
        · have := (h.old c' x h2).1; omega
    | none =>
      rw [e0fp c ht] at h1
      cases ht' : g.to c' with
      | some e' =>
        rw [e1fp c' e' ht'] at h2
        rcases (hB.old e' x h2).2 with h3 | h3
        · obtain ⟨c2, e2, h4, h5⟩ := hFp x h3
          have := h.disj c c2 x h1 h5
          subst this
          rw [ht] at h4
          cases h4
        · have := (h.old c x h1).1; omega
      | none =>
        rw [e0fp c' ht'] at h2
        exact h.disj c c' x h1 h2
  · cases ht : g.to c with
    | some e =>
      rw [e1fp c e ht] at hcx
      obtain ⟨h1, h2⟩ := hB.old e x hcx
      refine ⟨h1, ?_⟩
      rcases h2 with h2 | h2
      · obtain ⟨c2, e2, h4, h5⟩ := hFp x h2
        exact (h.old c2 x h5).2
      · have := h.evo.size
        exact .inr (by omega)
    | none =>
      rw [e0fp c ht] at hcx
      have := h.old c x hcx
      exact ⟨Nat.lt_of_lt_of_le this.1 hB.evo.size, this.2⟩
  · refine ((hk.tmp t).mono hSc hS).rename fun m hm => ?_
    rcases hren m with h1 | h1
    · rw [getT_men h1.1 t] at hm
      cases hm
    · exact h1
  · refine ⟨hB.evo.os.trans h.evo.os, hB.evo.tape.trans h.evo.tape, hB.evo.output.trans h.evo.output, Nat.le_trans h.evo.size hB.evo.size, fun x hx hF => ?_⟩
    refine (hheap x (Nat.lt_of_lt_of_le hx h.evo.size) fun c e _ hcx => ?_).trans (h.evo.block x hx hF)
    rcases (h.old c x hcx).2 with h1 | h1
    · exact hF h1
    · omega
  · cases ht : g.to c with
    | none => rw [e0φ c ht]; exact h.fix c h6
    | some e =>
      have := (Sg.ok_at hok (Sg.to_mem ht)).2.2
      rw [hfix c e ht (by omega)]
      exact h.fix c h6
end
end Go.PS
