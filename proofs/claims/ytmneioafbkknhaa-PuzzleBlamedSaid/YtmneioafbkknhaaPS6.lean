/- PS6: opVal tells what the machine does. -/
import Derived.Test.YtmneioafbkknhaaPS5
set_option linter.unusedVariables false
set_option linter.unusedSimpArgs false
namespace Go.PS
open Go Go.RowKit

section
variable {P : Program} {w0 : Base} {F0 : Nat → Prop} {n : Nat} {s : StL} {a : Act} {w : World} {φ : Nat → Value} {fp : Nat → Nat → Prop}

theorem lenPV_rep (h : SimX w0 F0 n s a w φ fp) {p : PV} {u : Value} {m : Nat} (hu : PVRep w φ (Stb w0 w fp) p u) (hq : lenPV s p = some m) : ∃ ao cap, u = .slice ao m cap := by
  unfold lenPV at hq
  split at hq
  · cases hq
    cases hu.t_inv with
    | sl g hcap ht hnn hnil hbd ha hlen hrep => exact ⟨_, _, rfl⟩
  · cases hq
    have := hu.t_inv.v_inv
    exact ⟨_, _, this⟩
  · rename_i m'
    split at hq
    · rename_i ty sz k xs hM
      cases hq
      cases hu with
      | osl hφ =>
      have hres := h.res m'
      rw [hM] at hres
      obtain ⟨cells, hown, _⟩ := hres
      rw [hφ] at hown
      rcases hown with ⟨hown, _⟩ | ⟨rfl, ⟨ao, hv⟩, _⟩
      · rcases hown.2 with ⟨hv, hz⟩ | ⟨g, cap, cur, hv, _⟩
        · exact ⟨none, 0, by rw [hv, hz]⟩
        · exact ⟨_, _, hv⟩
      · exact ⟨ao, 0, hv⟩
    · cases hq
  · cases hq

theorem isSlT_run {t : Nat} (h : isSlT P t = true) : ∃ e, P.underlying t = some (.slice e) := by
  unfold isSlT at h
  split at h
  · rename_i e he; exact ⟨e, he⟩
  · cases h

theorem args_one {α : Type} {f : Operand → α} {args : Array Operand} {x : α} (h : args.toList.map f = [x]) : ∃ o, args = #[o] ∧ f o = x := by
  rcases args with ⟨l⟩
  rcases l with _ | ⟨o, _ | ⟨o', l⟩⟩ <;> simp_all

theorem args_two {α : Type} {f : Operand → α} {args : Array Operand} {x y : α} (h : args.toList.map f = [x, y]) : ∃ o o', args = #[o, o'] ∧ f o = x ∧ f o' = y := by
  rcases args with ⟨l⟩
  rcases l with _ | ⟨o, _ | ⟨o', _ | ⟨o'', l⟩⟩⟩
  · simp at h
  · simp at h
  · exact ⟨o, o', rfl, by simpa using h⟩
  · simp at h

theorem builtinVal_run (h : SimX w0 F0 n s a w φ fp) {b : Builtin} {args : Array Operand} {ts : Array Nat} {ty : Nat} {cs : Array Bool} {q : PV}
    (hq : builtinVal P s b (args.toList.map (ev s)) ts = some q) :
    ∃ v, (builtin b ts ty cs (args.map a.eval)).run P w = .ok (.value v) w ∧ PVRep w φ (Stb w0 w fp) q v := by
  unfold builtinVal at hq
  split at hq
  · rename_i x hargs
    cases hts : ts[0]? with
    | none => simp [hts] at hq
    | some t =>
      simp only [hts] at hq
      split at hq
      · rename_i hsl
        obtain ⟨m, hm, rfl⟩ := Option.map_eq_some_iff.1 hq
        obtain ⟨e, he⟩ := isSlT_run hsl
        obtain ⟨o, rfl, hx⟩ := args_one hargs
        have hr := h.ev o
        rw [hx] at hr
        obtain ⟨ao, cap, hv⟩ := lenPV_rep h hr hm
        refine ⟨.int .i64 m, ?_, .t (.v _)⟩
        simp [builtin, Builtin.len_, hts, hv, run_underlying he, goInt]
      · cases hq
  · rename_i k1 k x k2 k' y hargs
    split at hq
    · rename_i hk
      subst hk
      cases hq
      obtain ⟨o, o', rfl, hx, hy⟩ := args_two hargs
      have h1 := h.ev o
      have h2 := h.ev o'
      rw [hx] at h1
      rw [hy] at h2
      refine ⟨_, ?_, .t (.v _)⟩
      simp [builtin, h1.t_inv.v_inv, h2.t_inv.v_inv, run_min_int2]
    · cases hq
  · rename_i k1 k x k2 k' y hargs
    split at hq
    · rename_i hk
      subst hk
      cases hq
      obtain ⟨o, o', rfl, hx, hy⟩ := args_two hargs
      have h1 := h.ev o
      have h2 := h.ev o'
      rw [hx] at h1
      rw [hy] at h2
      refine ⟨_, ?_, .t (.v _)⟩
      simp [builtin, Builtin.max_, Builtin.max2, h1.t_inv.v_inv, h2.t_inv.v_inv]
    · cases hq
  · cases hq

theorem convert_run {src dst : Nat} {k : IntKind} (h : cvT P src dst = some k) (k' : IntKind) (m : Int) (w : World) : (convert src dst (.int k' m)).run P w = .ok (.int k (k.wrap m)) w := by
  unfold cvT at h
  split at h
  · rename_i d k0 hs hd
    cases h
    simp only [convert, Sem.run_bind, run_underlying hs, run_underlying hd, Result.andThen_ok]
    cases d <;> simp [Conv.intToInt]
  · cases h

theorem nilPV_rep {St : Kind → Nat → Prop} {p q : PV} {u : Value} (hu : PVRep w φ St p u) (hq : nilPV p = some q) : ∃ A, u = .pointer (some A) ∧ q = p := by
  unfold nilPV at hq
  split at hq
  · cases hq
    cases hu with
    | ptr h => exact ⟨_, rfl, rfl⟩
  · cases hq
    cases hu.t_inv with
    | rp g hb hc hrep => exact ⟨_, rfl, rfl⟩
  · cases hq
    cases hu with
    | oep h => exact ⟨_, rfl, rfl⟩
  · cases hq

theorem opVal_run (h : SimX w0 F0 n s a w φ fp) {o : Oper} {q : PV} (hq : opVal P s o.op = some q) :
    ∃ v, (execOp a.eval o).run P w = .ok (.value v) w ∧ PVRep w φ (Stb w0 w fp) q v := by
  cases ho : o.op <;> simp only [ho, opVal, reduceCtorEq] at hq
  case move x => cases hq; exact ⟨_, by simp [execOp, ho], h.ev x⟩
  case assign x => cases hq; exact ⟨_, by simp [execOp, ho], h.ev x⟩
  case pick c x y =>
    have hc := h.ev c
    split at hq
    · rename_i k b he
      cases hq
      rw [he] at hc
      have hv := hc.t_inv.v_inv
      refine ⟨if b then a.eval x else a.eval y, by simp [execOp, ho, hv, asBool], ?_⟩
      cases b
      · exact h.ev y
      · exact h.ev x
    · cases hq
  case binOp op t x y t' =>
    have hx := h.ev x
    have hy := h.ev y
    split at hq
    · rename_i k u k' u' he he'
      obtain ⟨v, hv, rfl⟩ := Option.map_eq_some_iff.1 hq
      rw [he] at hx
      rw [he'] at hy
      have := sBinT_run (P := P) (t := t) (xo := x) (yo := y) hv w
      refine ⟨v, ?_, .t (.v _)⟩
      simp only [execOp, ho, hx.t_inv.v_inv, hy.t_inv.v_inv]
      exact run_value this
    · cases hq
  case unOp op t x =>
    have hx := h.ev x
    split at hq
    · rename_i k u he
      obtain ⟨v, hv, rfl⟩ := Option.map_eq_some_iff.1 hq
      rw [he] at hx
      refine ⟨v, ?_, .t (.v _)⟩
      simp only [execOp, ho, hx.t_inv.v_inv]
      exact run_value (sUn_run hv w)
    · cases hq
  case convert src dst x =>
    have hx := h.ev x
    split at hq
    · rename_i k kk m k' he hc
      cases hq
      rw [he] at hx
      refine ⟨_, ?_, .t (.v _)⟩
      simp only [execOp, ho, hx.t_inv.v_inv]
      exact run_value (convert_run hc kk m w)
    · cases hq
  case nilCheck x =>
    have hx := h.ev x
    obtain ⟨A, hA, hqq⟩ := nilPV_rep hx hq
    refine ⟨_, ?_, by rw [hqq]; exact hx⟩
    simp [execOp, ho, hA]
  case fieldAddr t x f =>
    have hx := h.ev x
    split at hq
    · rename_i d sz hf
      split at hq
      · cases hq
      · rename_i hsz
        obtain ⟨b, oo, hA, hr⟩ := addrPV_rep d hx hq
        refine ⟨_, ?_, hr⟩
        simp only [execOp, ho, hA]
        exact run_value (fieldAddr_run hf hsz w b oo)
    · cases hq
  case indexAddr t x i =>
    have hx := h.ev x
    have hi := h.ev i
    split at hq
    · rename_i k kk i' he
      rw [he] at hi
      obtain ⟨v, hv, hr⟩ := idxPV_run h (k := kk) hx hq
      refine ⟨v, ?_, hr⟩
      simp only [execOp, ho, hi.t_inv.v_inv]
      exact run_value hv
    · cases hq
  case load t x =>
    have hx := h.ev x
    split at hq
    · rename_i sz ag hs ha
      obtain ⟨v, hv, hr⟩ := loadPV_run h hs ha hx hq
      refine ⟨v, ?_, hr⟩
      simp only [execOp, ho]
      exact run_value hv
    · cases hq
  case extract x i =>
    have hx := h.ev x
    split at hq
    · rename_i k cs he
      rw [he] at hx
      obtain ⟨y, hy, rfl⟩ := Option.map_eq_some_iff.1 hq
      generalize hu : a.eval x = u at hx
      cases hx.t_inv with
      | tup vs hs hrep =>
      have hlt : i < vs.size := by rw [hs]; exact (List.getElem?_eq_some_iff.1 hy).1
      refine ⟨vs.getD i Go.undef, ?_, .t (hrep _ _ hy)⟩
      simp [execOp, ho, hu, Instr.extract, hlt]
    · rename_i cs he
      rw [he] at hx
      generalize hu : a.eval x = u at hx
      cases hx with
      | tup vs hs hrep =>
      have hlt : i < vs.size := by rw [hs]; exact (List.getElem?_eq_some_iff.1 hq).1
      refine ⟨vs.getD i Go.undef, ?_, hrep _ _ hq⟩
      simp [execOp, ho, hu, Instr.extract, hlt]
    · cases hq
  case field t x f =>
    have hx := h.ev x
    split at hq
    · rename_i d sz ag hf ha
      obtain ⟨vs, hu, v, hv, hr⟩ := partPV_rep hx hq
      refine ⟨v, ?_, hr⟩
      simp only [execOp, ho, hu]
      exact run_value (field_run hf ha w vs v hv)
    · cases hq
  case index t x i =>
    have hx := h.ev x
    have hi := h.ev i
    split at hq
    · rename_i k kk i' len sz ag he har ha
      split at hq
      · rename_i hcond
        rw [he] at hi
        obtain ⟨vs, hu, v, hv, hr⟩ := partPV_rep hx hq
        refine ⟨v, ?_, hr⟩
        simp only [execOp, ho, hu, hi.t_inv.v_inv]
        exact run_value (index_run har ha w kk i' hcond.1 hcond.2 vs v hv)
      · cases hq
    · cases hq
  case makeFunc fn first caps =>
    cases fn <;> simp only [reduceCtorEq] at hq
    rename_i f
    split at hq
    · rename_i hf
      cases hq
      have hf' : first = #[] := Array.eq_empty_of_size_eq_zero hf
      subst hf'
      refine ⟨.func (.func f) #[] (caps.map a.eval), by simp [execOp, ho, Instr.makeFunc], .clo _ (by simp) fun j x hx => ?_⟩
      rw [List.getElem?_map] at hx
      obtain ⟨y, hy, rfl⟩ := Option.map_eq_some_iff.1 hx
      rw [Array.getElem?_toList] at hy
      have : (caps.map a.eval).getD j Go.undef = a.eval y := by
        simp [Array.getD_eq_getD_getElem?, hy]
      rw [this]
      exact h.ev y
    · cases hq
  case slice t x lo hi mx =>
    have hx := h.ev x
    split at hq
    · cases hq
    · rename_i hc
      obtain ⟨v, hv, hr⟩ := slicePV_run h hx hq (fun hm => by
        cases hi with
        | none => simp [hm] at hc
        | some _ => rfl)
      refine ⟨v, ?_, hr⟩
      simp only [execOp, ho]
      exact run_value hv
  case call c =>
    split at hq
    · rename_i b hb
      obtain ⟨v, hv, hr⟩ := builtinVal_run h (ty := o.type) (cs := c.args.map fun | .const _ => true | _ => false) hq
      refine ⟨v, ?_, hr⟩
      simp only [execOp, ho, resolve, hb, Sem.run_bind, Sem.run_pure, Result.andThen_ok, invoke]
      exact hv
    · cases hq
end
end Go.PS
