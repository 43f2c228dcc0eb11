/- PS11: one operation's step of a state, and that the machine takes it. -/
import Derived.Test.YtmneioafbkknhaaPS10
import Derived.Lib.SliceRun
import Derived.Laws.MakeOwn
set_option linter.unusedVariables false
set_option linter.unusedSimpArgs false
namespace Go.PS
open Go Go.RowKit

/-- A slice held against nil. -/
def nilCmp (P : Program) (t : Nat) (p q : PV) : Option Bool :=
  match p, q with
  | .t _ (.sl f _ xs), .t _ (.v (.slice none 0 0)) => if isSlT P t = true ∧ (f = .nn ∨ xs.isEmpty = false) then some false else none
  | .t _ (.v (.slice none 0 0)), .t _ (.v (.slice none 0 0)) => if isSlT P t = true then some true else none
  | _, _ => none

def valOp (P : Program) (s : StL) : Op → Option PV
  | .build t parts => if fldsOk P t = true then buildPV P s t parts.toList else none
  | .binOp op t x y ty => match opVal P s (.binOp op t x y ty) with
    | some q => some q
    | none => match nilCmp P t (ev s x) (ev s y) with
      | none => none
      | some b => match op with
        | .eql => some (.t .fz (.v (.bool b)))
        | .neq => some (.t .fz (.v (.bool !b)))
        | _ => none
  | op => opVal P s op

/-- append(x, y). -/
def appendPV (P : Program) (d : Nat) (s : StL) (t : Nat) (x y : PV) : Option StL :=
  match elT P t with
  | none => none
  | some e => match szT P e, zT P e, byT P e with
    | some sz, some z, some b =>
      if 0 < sz ∧ 0 < b ∧ z.length = sz then
        match srcPV s sz y with
        | none => none
        | some (k, ys) =>
          match x with
          | .osl m => match getM s.M m with
            | .row e' sz' k' xs => if e' = e ∧ sz' = sz ∧ m < 1000000 ∧ (xs.length + ys.length) * b ≤ 140737488355328 then
                some ⟨(d, .osl m) :: (s.kill m).T, (m, .row e sz (k'.join k) (xs ++ ys)) :: (s.kill m).M⟩ else none
            | _ => none
          | .t _ (.v (.slice none 0 0)) => if s.free d = true ∧ ys.length * b ≤ 140737488355328 then some ⟨(d, .osl d) :: s.T, (d, .row e sz k ys) :: s.M⟩ else none
          | .t k' (.sl .tight sz' []) => if s.free d = true ∧ sz' = sz ∧ ys.length * b ≤ 140737488355328 then some ⟨(d, .osl d) :: s.T, (d, .row e sz k ys) :: s.M⟩ else none
          | .t k' (.sl .tight sz' xs) => if s.free d = true ∧ sz' = sz ∧ ys.isEmpty = false ∧ (xs.length + ys.length) * b ≤ 140737488355328 ∧ xs.all (fun e => e.all TL.leaf) = true then
              some ⟨(d, .osl d) :: s.T, (d, .row e sz (k'.join k) (xs ++ ys)) :: s.M⟩ else none
          | _ => none
      else none
    | _, _, _ => none

/-- A row of our own is cut. -/
def shrinkPV (P : Program) (d : Nat) (s : StL) (t : Nat) (x hi : PV) : Option StL :=
  match x, hi with
  | .osl m, .t _ (.v (.int _ i)) => match getM s.M m with
    | .row e sz k xs => if slT P t = some sz ∧ 0 ≤ i ∧ i ≤ xs.length ∧ m < 1000000 then
        some ⟨(d, .osl m) :: (s.kill m).T, (m, .row e sz k (xs.take i.toNat)) :: (s.kill m).M⟩ else none
    | _ => none
  | _, _ => none

def newOp (P : Program) (d : Nat) (s : StL) : Op → Option StL
  | .box t x => match cellsPV (ev s x) with
    | some cs => if s.free d = true then some ⟨(d, .ptr d 0) :: s.T, (d, .blk t cs) :: s.M⟩ else none
    | none => none
  | .alloc t => match zT P t with
    | some z => if s.free d = true then some ⟨(d, .ptr d 0) :: s.T, (d, .blk t (z.map fun c => PV.t .fz (.v c))) :: s.M⟩ else none
    | none => none
  | .buildSlice t len parts => match elT P t with
    | some e => match szT P e, zT P e with
      | some sz, some z => if s.free d = true ∧ z.length = sz ∧ len = parts.size ∧ len * sz ≤ 16777216 ∧ 0 < sz then
          match rowPV s sz 0 parts.toList with
          | some (k, xs) => some ⟨(d, .osl d) :: s.T, (d, .row e sz k xs) :: s.M⟩
          | none => none
        else none
      | _, _ => none
    | none => none
  | .makeSlice t l c => match elT P t, ev s l, ev s c with
    | some e, .t _ (.v (.int _ l)), .t _ (.v (.int _ c)) => match szT P e, zT P e, byT P e with
      | some sz, some z, some b => if s.free d = true ∧ z.length = sz ∧ 0 < sz ∧ 0 ≤ l ∧ l ≤ c ∧ c ≤ 140737488355328 ∧ (b : Int) * c ≤ 281474976710656 then
          some ⟨(d, .osl d) :: s.T, (d, .row e sz .fz (List.replicate l.toNat (z.map TL.v))) :: s.M⟩ else none
      | _, _, _ => none
    | _, _, _ => none
  | .call c => match c.callee, c.args.toList, c.argTypes.toList with
    | .builtin .append, [x, y], [t, t'] => if t = t' then appendPV P d s t (ev s x) (ev s y) else none
    | _, _, _ => none
  | .slice t x lo hi mx => if lo.isNone && mx.isNone then (match hi with
    | some hi => shrinkPV P d s t (ev s x) (ev s hi)
    | none => none) else none
  | _ => none

/-- One operation. -/
def step (P : Program) (n : Nat) (dst : Option Nat) (s : StL) (op : Op) : Option StL :=
  match dst with
  | none => match op with
    | .store t p v => storePV P s t (ev s p) (ev s v)
    | _ => none
  | some d => if d < n then
      match valOp P s op with
      | some q => some ⟨(d, q) :: s.T, s.M⟩
      | none => newOp P d s op
    else none

section
variable {P : Program} {w0 : Base} {F0 : Nat → Prop} {n : Nat} {s : StL} {a : Act} {w : World} {φ : Nat → Value} {fp : Nat → Nat → Prop}

theorem nilCmp_rep {St : Kind → Nat → Prop} {t : Nat} {p q : PV} {u v : Value} {b : Bool} (hu : PVRep w φ St p u) (hv : PVRep w φ St q v) (hq : nilCmp P t p q = some b) :
    ∃ e ao l c, P.underlying t = some (.slice e) ∧ u = .slice ao l c ∧ v = .slice none 0 0 ∧ b = ao.isNone := by
  unfold nilCmp at hq
  split at hq
  · rename_i k f sz xs k'
    split at hq
    · rename_i hc
      cases hq
      obtain ⟨e, he⟩ := isSlT_run hc.1
      have h2 := hv.t_inv.v_inv
      cases hu.t_inv with
      | sl g hcap ht hnn hnil hbd ha hlen hrep =>
        rename_i ao cap
        refine ⟨e, ao, _, _, he, rfl, h2, ?_⟩
        rcases hc.2 with hf | hx
        · have := hnn hf
          cases ao <;> simp_all
        · obtain ⟨b, o, rfl, _⟩ := ha.resolve_left (by rintro rfl; simp at hx)
          rfl
    · cases hq
  · split at hq
    · rename_i hc
      cases hq
      obtain ⟨e, he⟩ := isSlT_run hc
      exact ⟨e, none, 0, 0, he, hu.t_inv.v_inv, hv.t_inv.v_inv, rfl⟩
    · cases hq
  · cases hq

theorem valOp_run (h : SimX w0 F0 n s a w φ fp) {o : Oper} {q : PV} (hq : valOp P s o.op = some q) :
    ∃ v, (execOp a.eval o).run P w = .ok (.value v) w ∧ PVRep w φ (Stb w0 w fp) q v := by
  unfold valOp at hq
  split at hq
  · rename_i t parts ho
    split at hq
    · rename_i hok
      obtain ⟨v, hv, hr⟩ := buildPV_run h hok hq
      refine ⟨v, ?_, hr⟩
      simp only [execOp, ho]
      exact run_value hv
    · cases hq
  · rename_i op t x y ty ho
    split at hq
    · rename_i q' hq'
      cases hq
      rw [← ho] at hq'
      exact opVal_run h hq'
    · have hx := h.ev x
      have hy := h.ev y
      cases hb : nilCmp P t (ev s x) (ev s y) with
      | none => simp only [hb] at hq; cases hq
      | some b =>
        simp only [hb] at hq
        obtain ⟨e, ao, l, c, he, h1, h2, h3⟩ := nilCmp_rep hx hy hb
        have heql := Lib.run_eql_slice_nil (P := P) w t e ao l c 0 0 he
        split at hq
        · cases hq
          refine ⟨.bool b, ?_, .t (.v _)⟩
          simp only [execOp, ho, h1, h2]
          refine run_value ?_
          rw [Sem.run_bind]
          have hg : (eqGuard .eql t x y (.slice ao l c) (.slice none 0 0)).run P w = .ok () w := by unfold eqGuard; rfl
          rw [hg, Result.andThen_ok, heql, h3]
        · cases hq
          refine ⟨.bool !b, ?_, .t (.v _)⟩
          simp only [execOp, ho, h1, h2]
          refine run_value ?_
          rw [Sem.run_bind]
          have hg : (eqGuard .neq t x y (.slice ao l c) (.slice none 0 0)).run P w = .ok () w := by unfold eqGuard; rfl
          rw [hg, Result.andThen_ok]
          simp only [binOp, Sem.run_bind, Sem.run_pure] at heql ⊢
          cases hr : (Op.equal t (.slice ao l c) (.slice none 0 0)).run P w with
          | ok x w2 =>
            rw [hr] at heql
            simp only [Result.andThen_ok, Result.ok.injEq, Value.bool.injEq] at heql ⊢
            obtain ⟨e1, e2⟩ := heql
            rw [e1, e2, h3]
            simp
          | halt x w2 => rw [hr] at heql; simp [Result.andThen] at heql
        · cases hq
  · exact opVal_run h hq

theorem byT_info {e b sz : Nat} {z : List Value} (hb : byT P e = some b) (hs : szT P e = some sz) (hz : zT P e = some z) :
    ∃ i zv, P.info? e = some i ∧ i.bytes = b ∧ i.size = sz ∧ i.zero = some zv ∧ zv.cells.toList = z := by
  unfold byT at hb
  unfold szT at hs
  unfold zT at hz
  obtain ⟨i, hi, rfl⟩ := Option.map_eq_some_iff.1 hb
  rw [hi] at hs hz
  simp only [Option.map_some, Option.some.injEq] at hs
  obtain ⟨zv, hzv, rfl⟩ := Option.map_eq_some_iff.1 hz
  simp only [Option.bind_some] at hzv
  exact ⟨i, zv, hi, rfl, hs, hzv, rfl⟩

/-- The relation behind an append to what name m holds, or will hold. -/
theorem append_sim (h : SimX w0 F0 n s a w φ fp) {d m e sz : Nat} {k k' : Kind} {xs ys : List (List TL)} {cells news : List Value} {v' : Value} {w' : World} (hdn : d < n) (hm6 : m < 1000000)
    (hT : s.T.all (fun p => !p.2.men m) = true) (hM : s.M.all (fun p => !p.2.men m) = true)
    (hcl : cells.length = xs.length * sz) (hlx : ∀ e ∈ xs, e.length = sz) (hly : ∀ e ∈ ys, e.length = sz) (hsz : 0 < sz)
    (hrx : ∀ (i j : Nat) (e : List TL) (x : TL), xs[i]? = some e → e[j]? = some x → TRep w (Stb w0 w fp k') x (cells.getD (i * sz + j) Go.undef))
    (hry : ∀ (i j : Nat) (e : List TL) (x : TL), ys[i]? = some e → e[j]? = some x → TRep w (Stb w0 w fp k) x (news.getD (i * sz + j) Go.undef))
    (hbd : xs.length + ys.length ≤ 140737488355328)
    (hres : w'.ownsRow 0 e sz v' (xs.length + ys.length) (cells ++ news)) (hgr : w.grownBy w' none ∨ ∃ v, w.grownBy w' v ∧ ∀ g, some g = v → fp m g)
    (hF : ∀ g, v'.ownBlock = some g → fp m g ∨ w.heap.size ≤ g) :
    Sim w0 F0 n ⟨(d, .osl m) :: s.T, (m, .row e sz (k'.join k) (xs ++ ys)) :: s.M⟩ (a.put (some d) v') w' := by
  obtain ⟨os_, tp_, ot_, sz_, hblk⟩ : w'.os = w.os ∧ w'.tape = w.tape ∧ w'.output = w.output ∧ w.heap.size ≤ w'.heap.size ∧ ∀ g, g < w.heap.size → ¬ fp m g → w'.heap[g]? = w.heap[g]? := by
    rcases hgr with hg | ⟨v, hg, hv⟩
    · exact ⟨hg.os, hg.tape, hg.output, hg.size, fun g h1 _ => hg.block g h1 (by simp)⟩
    · exact ⟨hg.os, hg.tape, hg.output, hg.size, fun g h1 h2 => hg.block g h1 fun e => h2 (hv g e)⟩
  obtain ⟨φ', fp', h', hv'⟩ := h.regrow hm6 hT hM (w' := w') (v' := v') (r' := .row e sz (k'.join k) (xs ++ ys)) (F' := fun g => v'.ownBlock = some g) os_ tp_ ot_ sz_ hblk
    (fun g hg => ⟨hF g hg, (hres.lt g hg).2⟩) (fun φ' fp' hS hSc => by
      refine ⟨cells ++ news, .inl ⟨by simpa using hres, fun g => Iff.rfl⟩, by simpa using hbd, fun e he => ?_, fun i j e x he hx => ?_⟩
      · rcases List.mem_append.1 he with he | he
        · exact hlx e he
        · exact hly e he
      · have hj : j < sz := by
          have h1 := (List.getElem?_eq_some_iff.1 hx).1
          have h2 : e.length = sz := by
            rcases List.mem_append.1 (List.mem_of_getElem? he) with he | he
            · exact hlx e he
            · exact hly e he
          omega
        by_cases hi : i < xs.length
        · rw [List.getElem?_append_left hi] at he
          have hmul : (i + 1) * sz ≤ xs.length * sz := Nat.mul_le_mul_right _ hi
          rw [Nat.add_mul] at hmul
          have := ((hrx i j e x he hx).mono (hSc _) (hS _)).join k
          rwa [List.getD_eq_getElem?_getD, List.getElem?_append_left (by omega), ← List.getD_eq_getElem?_getD]
        · rw [List.getElem?_append_right (by omega)] at he
          have hmul : xs.length * sz ≤ i * sz := Nat.mul_le_mul_right _ (by omega)
          have := ((hry (i - xs.length) j e x he hx).mono (hSc _) (hS _)).join k'
          rw [Kind.join_comm] at this
          rw [List.getD_eq_getElem?_getD, List.getElem?_append_right (by omega), ← List.getD_eq_getElem?_getD]
          have e1 : i * sz + j - cells.length = (i - xs.length) * sz + j := by rw [hcl, Nat.sub_mul]; omega
          rw [e1]
          exact this)
  obtain ⟨ao, l, c, hs⟩ : ∃ ao l c, v' = .slice ao l c := by
    rcases hres.2 with ⟨rfl, _⟩ | ⟨g, cap, cur, rfl, _⟩
    · exact ⟨_, _, _, rfl⟩
    · exact ⟨_, _, _, rfl⟩
  subst hs
  exact ⟨φ', fp', h'.put hdn (.osl hv')⟩

/-- An empty slice without room, adopted. -/
theorem adopt_sim (h : SimX w0 F0 n s a w φ fp) {d m e sz : Nat} {k : Kind} {ao : Option Addr} (hdn : d < n) (hm6 : m < 1000000) (hT : s.T.all (fun p => !p.2.men m) = true) (hM : s.M.all (fun p => !p.2.men m) = true) :
    Sim w0 F0 n ⟨(d, .osl m) :: s.T, (m, .row e sz k []) :: s.M⟩ (a.put (some d) (.slice ao 0 0)) w := by
  obtain ⟨φ', fp', h', hv'⟩ := h.regrow hm6 hT hM (w' := w) (v' := .slice ao 0 0) (r' := .row e sz k []) (F' := fun _ => False) rfl rfl rfl (Nat.le_refl _) (fun _ _ _ => rfl)
    (fun g hg => hg.elim) (fun φ' fp' hS hSc => ⟨[], .inr ⟨rfl, ⟨ao, rfl⟩, fun g hg => hg⟩, by simp, by simp, fun i j e x he => by simp at he⟩)
  exact ⟨φ', fp', h'.put hdn (.osl hv')⟩

theorem appendPV_run (h : SimX w0 F0 n s a w φ fp) {d t ty : Nat} {x y : PV} {u v : Value} {s' : StL} (hdn : d < n) (hx : PVRep w φ (Stb w0 w fp) x u) (hy : PVRep w φ (Stb w0 w fp) y v) (hq : appendPV P d s t x y = some s') :
    ∃ r w', (Builtin.append_ #[t, t] ty #[u, v]).run P w = .ok r w' ∧ Sim w0 F0 n s' (a.put (some d) r) w' := by
  unfold appendPV at hq
  split at hq
  · cases hq
  · rename_i e he
    have ht := elT_und he
    split at hq
    · rename_i sz z b hsz hz hb
      split at hq
      · rename_i hc0
        obtain ⟨hszp, hbp, hzl⟩ := hc0
        obtain ⟨i, zv, hi, hib, his, hiz, hzc⟩ := byT_info hb hsz hz
        have hzs : zv.cells.size = sz := by rw [← hzl, ← hzc]; simp
        split at hq
        · cases hq
        · rename_i k ys hsrc
          obtain ⟨ao, c, rfl, hyb, hly, hne, news, hnl, hnc, hn1, hry⟩ := srcPV_rep h hszp hy hsrc
          have hao : ys.length = 0 ∨ ∃ A, ao = some A := hne.imp (fun h => by simp [h]) id
          split at hq
          · -- a row of our own
            rename_i m
            split at hq
            · rename_i e' sz' k' xs hM
              split at hq
              · rename_i hc
                obtain ⟨rfl, rfl, hm6, hbytes⟩ := hc
                cases hq
                cases hx with
                | @osl _ len cap bo hφ =>
                have h1 := h.kill m
                have hres := h1.res m
                have hMk : getM (s.kill m).M m = .row e' sz' k' xs := by
                  show getM (killM m s.M) m = _
                  rw [getM_kill, hM]; rfl
                rw [hMk] at hres
                obtain ⟨cells, hown, hbd, hlen, hrep⟩ := hres
                rw [hφ] at hown
                have hbd' : xs.length + ys.length ≤ 140737488355328 := Nat.le_trans (Nat.le_mul_of_pos_right _ hbp) hbytes
                rcases hown with ⟨hown, hF⟩ | ⟨rfl, ⟨bo', hbo'⟩, hF⟩
                · obtain ⟨v', w', hr, ho, hg, hv'⟩ := append_own (P := P) ht i hi hiz his hib hzs hszp hbp ty hown hao hnl hnc hn1 hbytes
                  refine ⟨v', w', hr, append_sim h1 hdn hm6 (killT_men m s.T) (killM_men m s.M) hown.1 hlen hly hszp hrep hry hbd' ho (.inr ⟨_, hg, fun g hg' => (hF g).2 hg'.symm⟩) fun g hg' => ?_⟩
                  rcases hv' with e1 | e1
                  · rw [e1] at hg'; exact .inl ((hF g).2 hg')
                  · rw [e1] at hg'; cases hg'; exact .inr (Nat.le_refl _)
                · cases hbo'
                  rcases Nat.eq_zero_or_pos ys.length with hy0 | hy0
                  · have : ys = [] := List.eq_nil_of_length_eq_zero hy0
                    subst this
                    exact ⟨_, w, run_append_zero ht hsz ty bo 0 0 (Nat.le_refl _) ao c w, adopt_sim h1 hdn hm6 (killT_men m s.T) (killM_men m s.M)⟩
                  · obtain ⟨A, rfl⟩ := hao.resolve_left (by omega)
                    obtain ⟨v', w', hr, ho, hg, hv'⟩ := append_grow (P := P) (bo := bo) (cells := []) ht i hi hiz his hib hzs hszp hbp ty (.inl rfl) (by simp) (fun B _ j u hu => by simp at hu) hy0 hnl (hnc A rfl) (by simpa using hbytes)
                    refine ⟨v', w', hr, append_sim h1 hdn hm6 (xs := []) (cells := []) (killT_men m s.T) (killM_men m s.M) (by simp) (by simp) hly hszp (fun i j e x he => by simp at he) hry (by simpa using hbd') (by simpa using ho) (.inl hg) fun g hg' => ?_⟩
                    rw [hv'] at hg'; cases hg'; exact .inr (Nat.le_refl _)
              · cases hq
            · cases hq
          · -- nil
            split at hq
            · rename_i hc
              obtain ⟨hfree, hbytes⟩ := hc
              cases hq
              have hu := hx.t_inv.v_inv
              subst hu
              simp only [StL.free, Bool.and_eq_true] at hfree
              have hbd' : ys.length ≤ 140737488355328 := hyb
              rcases Nat.eq_zero_or_pos ys.length with hy0 | hy0
              · have : ys = [] := List.eq_nil_of_length_eq_zero hy0
                subst this
                exact ⟨_, w, run_append_zero ht hsz ty none 0 0 (Nat.le_refl _) ao c w, adopt_sim h hdn (of_decide_eq_true hfree.2.2) hfree.1.1 hfree.1.2⟩
              · obtain ⟨A, rfl⟩ := hao.resolve_left (by omega)
                obtain ⟨v', w', hr, ho, hg, hv'⟩ := append_grow (P := P) (bo := none) (cells := []) ht i hi hiz his hib hzs hszp hbp ty (.inl rfl) (by simp) (fun B _ j u hu => by simp at hu) hy0 hnl (hnc A rfl) (by simpa using hbytes)
                have := append_sim h hdn (of_decide_eq_true hfree.2.2) (k' := .fz) (xs := []) (cells := []) hfree.1.1 hfree.1.2 (by simp) (by simp) hly hszp (fun i j e x he => by simp at he) hry (by simpa using hbd') (by simpa using ho) (.inl hg) fun g hg' => by
                  rw [hv'] at hg'; cases hg'; exact .inr (Nat.le_refl _)
                refine ⟨v', w', hr, ?_⟩
                cases k <;> exact this
            · cases hq
          · -- an empty cut without room
            rename_i k' sz'
            split at hq
            · rename_i hc
              obtain ⟨hfree, rfl, hbytes⟩ := hc
              cases hq
              obtain ⟨bo, rfl⟩ : ∃ bo, u = .slice bo 0 0 := by
                generalize hxs : ([] : List (List TL)) = xs at hx
                cases hx.t_inv with
                | @sl _ _ _ bo cap g hcap ht' hnn hnil hbd ha hlen hrep =>
                  subst hxs
                  have := ht' rfl
                  exact ⟨bo, by rw [this]; rfl⟩
              simp only [StL.free, Bool.and_eq_true] at hfree
              rcases Nat.eq_zero_or_pos ys.length with hy0 | hy0
              · have : ys = [] := List.eq_nil_of_length_eq_zero hy0
                subst this
                exact ⟨_, w, run_append_zero ht hsz ty bo 0 0 (Nat.le_refl _) ao c w, adopt_sim h hdn (of_decide_eq_true hfree.2.2) hfree.1.1 hfree.1.2⟩
              · obtain ⟨A, rfl⟩ := hao.resolve_left (by omega)
                obtain ⟨v', w', hr, ho, hg, hv'⟩ := append_grow (P := P) (bo := bo) (cells := []) ht i hi hiz his hib hzs hszp hbp ty (.inl rfl) (by simp) (fun B _ j u hu => by simp at hu) hy0 hnl (hnc A rfl) (by simpa using hbytes)
                have := append_sim h hdn (of_decide_eq_true hfree.2.2) (k' := .fz) (xs := []) (cells := []) hfree.1.1 hfree.1.2 (by simp) (by simp) hly hszp (fun i j e x he => by simp at he) hry (by simpa using hyb) (by simpa using ho) (.inl hg) fun g hg' => by
                  rw [hv'] at hg'; cases hg'; exact .inr (Nat.le_refl _)
                refine ⟨v', w', hr, ?_⟩
                cases k <;> exact this
            · cases hq
          · -- a cut without room
            rename_i k' sz' xs hxne
            split at hq
            · rename_i hc
              obtain ⟨hfree, rfl, hyne, hbytes, hleafx⟩ := hc
              cases hq
              obtain ⟨bo, c', hu, hxb, hlx, hne', olds, hol, hoc, ho1, hrx⟩ := srcPV_rep h hszp (p := .t k' (.sl .tight sz' xs)) (k := k') (ys := xs) hx (by simp [srcPV]; simpa using hleafx)
              have hu' : u = .slice bo xs.length xs.length := by
                cases hx.t_inv with
                | @sl _ _ _ bo' cap g hcap ht' hnn hnil hbd ha hlen hrep =>
                  have := ht' rfl
                  cases hu
                  rw [this]
              subst hu'
              simp only [StL.free, Bool.and_eq_true] at hfree
              have hy0 : 0 < ys.length := by
                cases ys with
                | nil => simp at hyne
                | cons => simp
              obtain ⟨A, rfl⟩ := hao.resolve_left (by omega)
              obtain ⟨v', w', hr, ho, hg, hv'⟩ := append_grow (P := P) (bo := bo) (cells := olds) ht i hi hiz his hib hzs hszp hbp ty (hne'.imp (fun h => by simp [h]) id) hol hoc hy0 hnl (hnc A rfl) hbytes
              have hbd' : xs.length + ys.length ≤ 140737488355328 := Nat.le_trans (Nat.le_mul_of_pos_right _ hbp) hbytes
              refine ⟨v', w', hr, append_sim h hdn (of_decide_eq_true hfree.2.2) hfree.1.1 hfree.1.2 hol hlx hly hszp hrx hry hbd' ho (.inl hg) fun g hg' => ?_⟩
              rw [hv'] at hg'; cases hg'; exact .inr (Nat.le_refl _)
            · cases hq
          · cases hq
      · cases hq
    · cases hq

theorem shrinkPV_run (h : SimX w0 F0 n s a w φ fp) {d t : Nat} {x hi : PV} {u v : Value} {s' : StL} (hdn : d < n) (hx : PVRep w φ (Stb w0 w fp) x u) (hy : PVRep w φ (Stb w0 w fp) hi v) (hq : shrinkPV P d s t x hi = some s') :
    ∃ r, (Instr.sliceAt t u none (some v) none).run P w = .ok r w ∧ Sim w0 F0 n s' (a.put (some d) r) w := by
  unfold shrinkPV at hq
  split at hq
  · rename_i m k0 kk i
    split at hq
    · rename_i e sz k xs hM
      split at hq
      · rename_i hcond
        obtain ⟨hsl, h0, h1, hm6⟩ := hcond
        cases hq
        have hv := hy.t_inv.v_inv
        subst hv
        cases hx with
        | @osl _ len cap ao hφ =>
        have hres := h.res m
        rw [hM] at hres
        obtain ⟨cells, hown, hbd, hlen, hrep⟩ := hres
        rw [hφ] at hown
        unfold slT at hsl
        split at hsl
        · rename_i e' he'
          obtain ⟨j, rfl⟩ : ∃ j : Nat, i = j := ⟨i.toNat, by omega⟩
          have hj : j ≤ xs.length := by omega
          have key : len = xs.length ∧ xs.length ≤ cap ∧ (ao = none ∨ (∃ g, ao = some ⟨g, 0, none⟩) ∨ cap = 0) := by
            rcases hown with ⟨hown, hF⟩ | ⟨rfl, ⟨ao', hv⟩, _⟩
            · rcases hown.2 with ⟨hv, hz⟩ | ⟨g, cap', cur, hv, _, hh, hle, _, _⟩
              · cases hv
                exact ⟨hz.symm, by omega, .inl rfl⟩
              · cases hv
                exact ⟨rfl, hle, .inr (.inl ⟨g, rfl⟩)⟩
            · cases hv
              exact ⟨rfl, Nat.le_refl _, .inr (.inr rfl)⟩
          obtain ⟨hl, hcap, hao⟩ := key
          subst hl
          have hbr : (Instr.sliceBounds true xs.length cap none (some (.int kk (j : Int))) none).run P w = .ok (0, j, cap) w := by
            have := run_sliceBound_ok (P := P) (code := .sliceAcap) (x := .int kk (j : Int)) rfl (by omega) (show ((j : Nat) : Int) ≤ ((cap : Nat) : Int) by omega) w
            simp [Instr.sliceBounds, this]
          have hrun : (Instr.sliceAt t (.slice ao xs.length cap) none (some (.int kk (j : Int))) none).run P w = .ok (.slice ao j cap) w := by
            simp only [Instr.sliceAt, Instr.slice, Option.map, run_underlying he', hbr, szT_run hsl, Sem.run_bind, Result.andThen_ok, Sem.run_pure, Nat.zero_mul, Nat.sub_zero]
            rcases hao with rfl | ⟨g, rfl⟩ | rfl
            · simp
            · by_cases e0 : cap = 0
              · simp [e0]
              · simp [e0, addr_add]
            · simp
          refine ⟨_, hrun, ?_⟩
          have hk := h.kill m
          obtain ⟨φ', fp', h', hv'⟩ := hk.regrow hm6 (killT_men m s.T) (killM_men m s.M) (w' := w) (v' := .slice ao j cap) (r' := .row e sz k (xs.take j)) (F' := fp m) rfl rfl rfl (Nat.le_refl _) (fun _ _ _ => rfl)
            (fun g hg => ⟨.inl hg, (h.old m g hg).1⟩) (fun φ' fp' hS hSc => by
              refine ⟨cells.take (j * sz), ?_, by simp; omega, fun e he => hlen e (List.mem_of_mem_take he), fun i' j' e x he hx => ?_⟩
              · rw [List.length_take, Nat.min_eq_left hj]
                rcases hown with ⟨hown, hF⟩ | ⟨rfl, ⟨ao', hv⟩, hF⟩
                · refine .inl ⟨⟨?_, ?_⟩, fun g => (hF g).trans (by cases ao <;> rfl)⟩
                  · rw [List.length_take, hown.1, Nat.min_eq_left (Nat.mul_le_mul_right _ hj)]
                  · rcases hown.2 with ⟨hv, hz⟩ | ⟨g, cap', cur, hv, hb, hh, hle, hm, hs, ht⟩
                    · simp only [Value.slice.injEq] at hv
                      obtain ⟨rfl, _, rfl⟩ := hv
                      have : j = 0 := by omega
                      subst this
                      exact .inl ⟨rfl, rfl⟩
                    · simp only [Value.slice.injEq] at hv
                      obtain ⟨rfl, _, rfl⟩ := hv
                      refine .inr ⟨g, cap, cur, rfl, hb, hh, by omega, hm, hs, ?_⟩
                      rw [← ht, List.take_take, Nat.min_eq_left (Nat.mul_le_mul_right _ hj)]
                · simp only [Value.slice.injEq] at hv
                  obtain ⟨_, _, rfl⟩ := hv
                  have : j = 0 := by simpa using hj
                  subst this
                  exact .inr ⟨by simp, ⟨ao, rfl⟩, hF⟩
              · have hi' : i' < j := by
                  have := (List.getElem?_eq_some_iff.1 he).1
                  rw [List.length_take] at this
                  omega
                rw [List.getElem?_take_of_lt hi'] at he
                have hjl : j' < sz := by
                  have h1 := (List.getElem?_eq_some_iff.1 hx).1
                  have h2 := hlen e (List.mem_of_getElem? he)
                  omega
                have := (hrep i' j' e x he hx).mono (hSc _) (hS _)
                have hmul : (i' + 1) * sz ≤ j * sz := Nat.mul_le_mul_right _ hi'
                rw [Nat.add_mul] at hmul
                rwa [List.getD_eq_getElem?_getD, List.getElem?_take_of_lt (by omega), ← List.getD_eq_getElem?_getD])
          exact ⟨φ', fp', h'.put hdn (.osl hv')⟩
        · cases hsl
      · cases hq
    · cases hq
  · cases hq

theorem newOp_run (h : SimX w0 F0 n s a w φ fp) {o : Oper} {d : Nat} (hd : o.dst = some d) (hdn : d < n) {s' : StL} (hq : newOp P d s o.op = some s') :
    ∃ v w', (execOp a.eval o).run P w = .ok (.value v) w' ∧ Sim w0 F0 n s' (a.put (some d) v) w' := by
  cases ho : o.op <;> simp only [ho, newOp, reduceCtorEq] at hq
  case box t x =>
    split at hq
    · rename_i cs hcs
      split at hq
      · rename_i hf
        cases hq
        obtain ⟨hs, hc⟩ := cellsPV_rep (h.ev x) hcs
        refine ⟨_, _, ?_, h.newBlk hf hdn t hs (cellsPV_men hcs (ev_men hf x)) hc⟩
        simp only [execOp, ho]
        exact run_value (by simp [Instr.box, run_newVar])
      · cases hq
    · cases hq
  case alloc t =>
    split at hq
    · rename_i z hz
      split at hq
      · rename_i hf
        cases hq
        obtain ⟨zv, hzr, hzc⟩ := zT_run hz w
        refine ⟨_, _, ?_, h.newBlk hf hdn t (vs := zv.cells) (by rw [← hzc]; simp) (by
          have e1 : z.map (fun c => PV.t .fz (.v c)) = (z.map TL.v).map (PV.t .fz) := by simp
          rw [e1]
          exact menL_map _ _ _) fun j x hx => ?_⟩
        · simp only [execOp, ho]
          exact run_value (by simp [Instr.alloc, hzr, run_newVar])
        · rw [List.getElem?_map] at hx
          obtain ⟨c, hc, rfl⟩ := Option.map_eq_some_iff.1 hx
          rw [← hzc, Array.getElem?_toList] at hc
          rw [Array.getD_eq_getD_getElem?, hc]
          exact .t (.v _)
      · cases hq
    · cases hq
  case buildSlice t len parts =>
    split at hq
    · rename_i e he
      split at hq
      · rename_i sz z hsz hz
        split at hq
        · rename_i hc
          obtain ⟨h1, h2, h3, h4, h5⟩ := hc
          split at hq
          · rename_i k xs hrow
            cases hq
            obtain ⟨v, w', hr, hs⟩ := buildSlice_run h h1 hdn he hsz hz h2 h3 h4 h5 hrow
            refine ⟨v, w', ?_, hs⟩
            simp only [execOp, ho]
            exact run_value hr
          · cases hq
        · cases hq
      · cases hq
    · cases hq
  case makeSlice t l c =>
    split at hq
    · rename_i e k1 kk1 l' k2 kk2 c' he hl hc
      split at hq
      · rename_i sz z b hsz hz hb
        split at hq
        · rename_i hcond
          obtain ⟨h1, h2, h3, h4, h5, h6, h7⟩ := hcond
          cases hq
          obtain ⟨i, zv, hi, hib, his, hiz, hzc⟩ := byT_info hb hsz hz
          have hl' := h.ev l
          rw [hl] at hl'
          have hc' := h.ev c
          rw [hc] at hc'
          have hr := run_make (P := P) w t e i zv (elT_und he) hi hiz kk1 kk2 l' c' h4 h5 (by rw [hib]; exact h7) (by omega)
          have hzs : zv.cells.size = sz := by rw [← h2, ← hzc]; simp
          rw [his] at hr
          refine ⟨.slice (some ⟨w.heap.size, 0, none⟩) l'.toNat c'.toNat, w.alloc (.cells (madeCells zv.cells (c'.toNat * sz)) e), ?_, ?_⟩
          rotate_left
          · have := h.newRow h1 hdn e sz .fz (cells := madeCells zv.cells (c'.toNat * sz)) (xs := List.replicate l'.toNat (z.map TL.v)) c'.toNat (by simp; omega) (by simp only [maxLen]; omega) (by simp [size_madeCells]) (by simp; omega) (fun e he => by
              rw [List.eq_of_mem_replicate he]; simpa using h2) (fun i j e x he hx => by
              have he' := List.mem_of_getElem? he
              rw [List.eq_of_mem_replicate he', List.getElem?_map] at hx
              obtain ⟨y, hy, rfl⟩ := Option.map_eq_some_iff.1 hx
              have hj : j < sz := by have := (List.getElem?_eq_some_iff.1 hy).1; omega
              have hi' : i < l'.toNat := by have := (List.getElem?_eq_some_iff.1 he).1; simpa using this
              have hmul : (i + 1) * sz ≤ c'.toNat * sz := Nat.mul_le_mul_right _ (by omega)
              rw [Nat.add_mul] at hmul
              have hg : (madeCells zv.cells (c'.toNat * sz)).getD (i * sz + j) Go.undef = y := by
                have e2 : (i * sz + j) % zv.cells.size = j := by rw [hzs, Nat.mul_comm, Nat.mul_add_mod]; exact Nat.mod_eq_of_lt hj
                have hlt : i * sz + j < c'.toNat * sz := by omega
                rw [← hzc, Array.getElem?_toList] at hy
                simp [madeCells, Array.getD_eq_getD_getElem?, hlt, e2, hy, getElem!_def]
              rw [hg]
              exact .v _)
            rw [List.length_replicate] at this
            exact this
          · simp only [execOp, ho, hl'.t_inv.v_inv, hc'.t_inv.v_inv]
            exact run_value hr
        · cases hq
      · cases hq
    · cases hq
  case call c =>
    split at hq
    · rename_i x y t t' hcal hargs hts
      split at hq
      · rename_i htt
        subst htt
        obtain ⟨r, w', hr, hs⟩ := appendPV_run (ty := o.type) h hdn (h.ev x) (h.ev y) hq
        refine ⟨r, w', ?_, hs⟩
        have ha : c.args = #[x, y] := by rw [← hargs]
        have hta : c.argTypes = #[t, t] := by rw [← hts]
        simp only [execOp, ho, resolve, hcal, Sem.run_bind, Sem.run_pure, Result.andThen_ok, invoke, builtin, ha, hta]
        simp [hr]
      · cases hq
    · cases hq
  case slice t x lo hi mx =>
    split at hq
    · rename_i hc
      split at hq
      · rename_i hi'
        obtain ⟨r, hr, hs⟩ := shrinkPV_run h hdn (h.ev x) (h.ev hi') hq
        simp only [Bool.and_eq_true, Option.isNone_iff_eq_none] at hc
        obtain ⟨rfl, rfl⟩ := hc
        refine ⟨r, w, ?_, hs⟩
        simp only [execOp, ho]
        exact run_value hr
      · cases hq
    · cases hq

theorem step_run (h : Sim w0 F0 n s a w) {o : Oper} {s' : StL} (hq : step P n o.dst s o.op = some s') :
    ∃ nx v w', (execOp a.eval o).run P w = .ok nx w' ∧ (nx = .value v ∨ (nx = .skip ∧ v = Go.undef)) ∧ Sim w0 F0 n s' (a.put o.dst v) w' := by
  obtain ⟨φ, fp, h⟩ := h
  unfold step at hq
  split at hq
  · rename_i hd
    split at hq
    · rename_i t p v ho
      obtain ⟨w', hr, hs⟩ := storePV_run h (h.ev p) (h.ev v) hq
      refine ⟨.skip, Go.undef, w', ?_, .inr ⟨rfl, rfl⟩, φ, fp, ?_⟩
      · simp only [execOp, ho]
        simp [hr]
      · rw [hd]; exact hs
    · cases hq
  · rename_i d hd
    split at hq
    · rename_i hdn
      split at hq
      · rename_i q hv
        cases hq
        obtain ⟨v, hr, hp⟩ := valOp_run h hv
        exact ⟨.value v, v, w, hr, .inl rfl, φ, fp, by rw [hd]; exact h.put hdn hp⟩
      · obtain ⟨v, w', hr, hs⟩ := newOp_run h hd hdn hq
        exact ⟨.value v, v, w', hr, .inl rfl, by rw [hd]; exact hs⟩
    · cases hq

end
end Go.PS
