/- PS5: every operation that changes nothing answers as opVal says. -/
import Derived.Test.YtmneioafbkknhaaPS4
set_option linter.unusedVariables false
set_option linter.unusedSimpArgs false
namespace Go.PS
open Go Go.RowKit

section
variable {P : Program} {w0 : Base} {F0 : Nat → Prop} {n : Nat} {s : StL} {a : Act} {w : World} {φ : Nat → Value} {fp : Nat → Nat → Prop}

theorem addrPV_rep {St : Kind → Nat → Prop} {p q : PV} {u : Value} (d : Nat) (hu : PVRep w φ St p u) (hq : addrPV p d = some q) :
    ∃ b o, u = .pointer (some ⟨b, o, none⟩) ∧ PVRep w φ St q (.pointer (some ⟨b, o + d, none⟩)) := by
  unfold addrPV at hq
  split at hq
  · rename_i m off
    cases hq
    cases hu with
    | ptr h => exact ⟨_, _, rfl, .ptr h⟩
  · rename_i k cs off
    cases hq
    cases hu.t_inv with
    | rp g hb hc hrep => exact ⟨_, _, rfl, by rw [Nat.add_assoc]; exact .t (.rp g hb hc hrep)⟩
  · rename_i m sz i off
    cases hq
    cases hu with
    | oep h => exact ⟨_, _, rfl, by rw [Nat.add_assoc]; exact .oep h⟩
  · cases hq

theorem addr_add (b o d : Nat) : (⟨b, o, none⟩ : Addr).add d = ⟨b, o + d, none⟩ := by unfold Addr.add; split <;> simp_all

theorem szT_info {t m : Nat} (h : szT P t = some m) : ∃ i, P.info? t = some i ∧ i.size = m := by
  unfold szT at h
  obtain ⟨i, hi, rfl⟩ := Option.map_eq_some_iff.1 h
  exact ⟨i, hi, rfl⟩

theorem fieldAddr_run {t f d sz : Nat} (hf : fldT P t f = some (d, sz)) (hsz : sz ≠ 0) (w : World) (b o : Nat) :
    (Instr.fieldAt t (.pointer (some ⟨b, o, none⟩)) f).run P w = .ok (.pointer (some ⟨b, o + d, none⟩)) w := by
  unfold fldT at hf
  split at hf
  · rename_i fs hfs
    split at hf
    · rename_i fl hfl
      obtain ⟨m, hm, he⟩ := Option.map_eq_some_iff.1 hf
      simp only [Prod.mk.injEq] at he
      obtain ⟨rfl, rfl⟩ := he
      simp [Instr.fieldAt, run_underlying hfs, hfl, Instr.sureAddr, fieldPlace, szT_run hm, hsz, addr_add]
    · cases hf
  · cases hf

theorem field_run {t f d sz : Nat} {ag : Bool} (hf : fldT P t f = some (d, sz)) (ha : fldA P t f = some ag) (w : World) (vs : Array Value) (v : Value)
    (hv : if ag then v = .agg (vs.extract d (d + sz)) else vs[d]? = some v) :
    (Instr.field t (.agg vs) f).run P w = .ok v w := by
  unfold fldT at hf
  unfold fldA at ha
  split at hf
  · rename_i fs hfs
    simp only [hfs] at ha
    split at hf
    · rename_i fl hfl
      simp only [hfl] at ha
      obtain ⟨m, hm, he⟩ := Option.map_eq_some_iff.1 hf
      simp only [Prod.mk.injEq] at he
      obtain ⟨rfl, rfl⟩ := he
      cases ag with
      | true =>
        simp only [if_true] at hv
        subst hv
        simp [Instr.field, run_underlying hfs, hfl, asAgg, part, aggT_run ha, szT_run hm]
      | false =>
        simp only [Bool.false_eq_true, if_false] at hv
        simp [Instr.field, run_underlying hfs, hfl, asAgg, part, aggT_run ha, hv]
    · cases hf
  · cases hf

theorem extract_size {vs : Array Value} {d sz : Nat} (h : d + sz ≤ vs.size) : (vs.extract d (d + sz)).size = sz := by simp; omega
theorem extract_getD {vs : Array Value} {d sz j : Nat} (h : j < sz) : (vs.extract d (d + sz)).getD j Go.undef = vs.getD (d + j) Go.undef := by
  simp only [Array.getD_eq_getD_getElem?, Array.getElem?_extract]
  by_cases hb : d + j < vs.size
  · rw [if_pos (by omega)]
  · rw [if_neg (by omega), Array.getElem?_eq_none (by omega)]

theorem partPV_rep {St : Kind → Nat → Prop} {p q : PV} {u : Value} {d sz : Nat} {ag : Bool} (hu : PVRep w φ St p u) (hq : partPV p d sz ag = some q) :
    ∃ vs, u = .agg vs ∧ ∃ v, (if ag then v = .agg (vs.extract d (d + sz)) else vs[d]? = some v) ∧ PVRep w φ St q v := by
  unfold partPV at hq
  split at hq
  · rename_i k cs
    cases hu.t_inv with
    | agg vs hs hrep =>
    refine ⟨vs, rfl, ?_⟩
    cases ag with
    | true =>
      simp only [if_true] at hq ⊢
      split at hq
      · rename_i hle
        cases hq
        refine ⟨_, rfl, .t (.agg _ (by rw [extract_size (by omega)]; simp; omega) fun j x hx => ?_)⟩
        rw [List.getElem?_take] at hx
        split at hx
        · rename_i hj
          rw [List.getElem?_drop] at hx
          rw [extract_getD hj]
          exact hrep _ _ hx
        · cases hx
      · cases hq
    | false =>
      simp only [Bool.false_eq_true, if_false] at hq ⊢
      obtain ⟨x, hx, rfl⟩ := Option.map_eq_some_iff.1 hq
      have hlt : d < vs.size := by rw [hs]; exact (List.getElem?_eq_some_iff.1 hx).1
      refine ⟨vs.getD d Go.undef, by simp [hlt], .t (hrep _ _ hx)⟩
  · rename_i cs
    cases hu with
    | agg vs hs hrep =>
    refine ⟨vs, rfl, ?_⟩
    cases ag with
    | true =>
      simp only [if_true] at hq ⊢
      split at hq
      · rename_i hle
        cases hq
        refine ⟨_, rfl, .agg _ (by rw [extract_size (by omega)]; simp; omega) fun j x hx => ?_⟩
        rw [List.getElem?_take] at hx
        split at hx
        · rename_i hj
          rw [List.getElem?_drop] at hx
          rw [extract_getD hj]
          exact hrep _ _ hx
        · cases hx
      · cases hq
    | false =>
      simp only [Bool.false_eq_true, if_false] at hq ⊢
      have hlt : d < vs.size := by rw [hs]; exact (List.getElem?_eq_some_iff.1 hq).1
      exact ⟨vs.getD d Go.undef, by simp [hlt], hrep _ _ hq⟩
  · cases hq

theorem index_run {t len sz : Nat} {ag : Bool} (har : arT P t = some (len, sz)) (ha : arA P t = some ag) (w : World) (k : IntKind) (i : Int) (h0 : 0 ≤ i) (h1 : i < len) (vs : Array Value) (v : Value)
    (hv : if ag then v = .agg (vs.extract (i.toNat * sz) (i.toNat * sz + sz)) else vs[i.toNat * sz]? = some v) :
    (Instr.index t (.agg vs) (.int k i)).run P w = .ok v w := by
  unfold arT at har
  unfold arA at ha
  split at har
  · rename_i m e he
    simp only [he] at ha
    obtain ⟨z, hz, hee⟩ := Option.map_eq_some_iff.1 har
    simp only [Prod.mk.injEq] at hee
    obtain ⟨rfl, rfl⟩ := hee
    cases ag with
    | true =>
      simp only [if_true] at hv
      subst hv
      simp [Instr.index, run_underlying he, asIntOf, h0, h1, szT_run hz, part, aggT_run ha]
    | false =>
      simp only [Bool.false_eq_true, if_false] at hv
      simp [Instr.index, run_underlying he, asIntOf, h0, h1, szT_run hz, part, aggT_run ha, hv]
  · cases har

theorem idxPV_run (h : SimX w0 F0 n s a w φ fp) {t : Nat} {k : IntKind} {i : Int} {p q : PV} {u : Value} (hu : PVRep w φ (Stb w0 w fp) p u) (hq : idxPV P s t p i = some q) :
    ∃ v, (Instr.indexAt t u (.int k i)).run P w = .ok v w ∧ PVRep w φ (Stb w0 w fp) q v := by
  unfold idxPV at hq
  split at hq
  · rename_i k' tt sz xs
    split at hq
    · rename_i hcond
      obtain ⟨hsl, h0, h1⟩ := hcond
      cases hq
      have hr := hu.t_inv
      cases hr with
      | @sl _ _ _ ao cap g hcap ht hnn hnil hbd ha hlen hrep =>
      have hi : i.toNat < xs.length := by omega
      have hne : xs ≠ [] := by rintro rfl; simp at hi
      obtain ⟨b, o, rfl, hb, hc⟩ := ha.resolve_left hne
      unfold slT at hsl
      split at hsl
      · rename_i e he
        have he' : xs[i.toNat]? = some (xs.getD i.toNat []) := by
          rw [List.getD_eq_getElem?_getD, List.getElem?_eq_getElem hi]; rfl
        have hel : (xs.getD i.toNat []).length = sz := hlen _ (List.mem_of_getElem? he')
        refine ⟨.pointer (some ⟨b, o + i.toNat * sz + 0, none⟩), ?_, .t (.rp (o := o + i.toNat * sz) (fun j => g i.toNat j) hb (fun j hj => by rw [Nat.add_assoc]; exact hc _ _ hi (by omega)) (fun j x hx => hrep _ _ _ _ he' hx))⟩
        simp [Instr.indexAt, asIntOf, run_underlying he, h0, h1, szT_run hsl, addr_add]
      · cases hsl
    · cases hq
  · rename_i m
    split at hq
    · rename_i ty sz k' xs hM
      split at hq
      · rename_i hcond
        obtain ⟨hsl, h0, h1⟩ := hcond
        cases hq
        cases hu with
        | osl hφ =>
        have hres := h.res m
        rw [hM] at hres
        obtain ⟨cells, hown, hbd, hlen, hrep⟩ := hres
        rw [hφ] at hown
        have hi : i.toNat < xs.length := by omega
        obtain ⟨hown, hF⟩ := hown.resolve_right (by rintro ⟨rfl, _⟩; simp at hi)
        obtain ⟨g, cap, hv⟩ : ∃ g cap, φ m = .slice (some ⟨g, 0, none⟩) xs.length cap := by
          rcases hown.2 with ⟨_, hz⟩ | ⟨g, cap, cur, hv, _⟩
          · omega
          · exact ⟨g, cap, hφ.trans hv⟩
        rw [hφ] at hv
        cases hv
        unfold slT at hsl
        split at hsl
        · rename_i e he
          refine ⟨.pointer (some ⟨g, i.toNat * sz + 0, none⟩), ?_, .oep hφ⟩
          simp [Instr.indexAt, asIntOf, run_underlying he, h0, h1, szT_run hsl, addr_add]
        · cases hsl
      · cases hq
    · cases hq
  · split at hq
    · rename_i len sz har
      split at hq
      · rename_i hcond
        obtain ⟨h0, h1⟩ := hcond
        obtain ⟨b, o, rfl, hr⟩ := addrPV_rep _ hu hq
        unfold arT at har
        split at har
        · rename_i m e he
          obtain ⟨z, hz, hee⟩ := Option.map_eq_some_iff.1 har
          simp only [Prod.mk.injEq] at hee
          obtain ⟨rfl, rfl⟩ := hee
          refine ⟨_, ?_, hr⟩
          simp [Instr.indexAt, asIntOf, run_underlying he, h0, h1, szT_run hz, addr_add, Instr.sureAddr]
        · cases har
      · cases hq
    · cases hq

theorem run_sliceBound_ok {x : Value} {k : IntKind} {i : Int} {y : Nat} {code : BoundsCode} (hx : x = .int k i) (h0 : 0 ≤ i) (h1 : i ≤ y) (w : World) : (Instr.sliceBound x y code).run P w = .ok i.toNat w := by
  subst hx
  simp [Instr.sliceBound, asIntOf, h0, h1]

theorem bndPV_rep (h : SimX w0 F0 n s a w φ fp) {x : Option Operand} {d : Nat} {i : Int} (hb : bndPV s x d = some i) : (x = none ∧ i = d) ∨ ∃ x' k, x = some x' ∧ a.eval x' = .int k i := by
  unfold bndPV at hb
  split at hb
  · cases hb; exact .inl ⟨rfl, rfl⟩
  · rename_i x'
    split at hb
    · rename_i k' kk i' he
      cases hb
      have := h.ev x'
      rw [he] at this
      exact .inr ⟨x', _, rfl, this.t_inv.v_inv⟩
    · cases hb

theorem slicePV_run (h : SimX w0 F0 n s a w φ fp) {t : Nat} {p q : PV} {u : Value} {lo hi mx : Option Operand} (hu : PVRep w φ (Stb w0 w fp) p u) (hq : slicePV P s t p lo hi mx = some q) (hmx : mx.isSome = true → hi.isSome = true) :
    ∃ v, (Instr.sliceAt t u (lo.map a.eval) (hi.map a.eval) (mx.map a.eval)).run P w = .ok v w ∧ PVRep w φ (Stb w0 w fp) q v := by
  unfold slicePV at hq
  split at hq
  · rename_i k tt sz xs
    split at hq
    · rename_i l hh m hl1 hh1 hm1
      split at hq
      · rename_i hcond
        obtain ⟨hsl, h0, hlh, hhm, hml⟩ := hcond
        cases hq
        have hr := hu.t_inv
        cases hr with
        | @sl _ _ _ ao cap g hcap ht hnn hnil hbd ha hlen hrep =>
        unfold slT at hsl
        split at hsl
        · rename_i e he
          have el := bndPV_rep h hl1
          have eh := bndPV_rep h hh1
          have em := bndPV_rep h hm1
          -- the bounds as the machine takes them
          have hbnd : ∃ m' : Nat, (Instr.sliceBounds true xs.length cap (lo.map a.eval) (hi.map a.eval) (mx.map a.eval)).run P w = .ok (l.toNat, hh.toNat, m') w ∧ m' ≤ cap ∧ hh.toNat ≤ m' ∧
              ((if mx.isSome then decide (m = hh) else decide (tt = .tight) && decide (hh = xs.length)) = true → m' = hh.toNat) := by
            rcases em with ⟨rfl, hm'⟩ | ⟨xm, km, rfl, hm'⟩
            · rcases eh with ⟨rfl, hh'⟩ | ⟨xh, kh, rfl, hh'⟩
              · rcases el with ⟨rfl, hl'⟩ | ⟨xl, kl, rfl, hl'⟩
                · subst hh'; subst hl'
                  refine ⟨cap, by simp [Instr.sliceBounds], Nat.le_refl _, by omega, fun htt => ?_⟩
                  simp only [Option.isSome_none, Bool.false_eq_true, if_false, Bool.and_eq_true, decide_eq_true_eq] at htt
                  have := ht htt.1
                  omega
                · subst hh'
                  refine ⟨cap, by simp [Instr.sliceBounds, run_sliceBound_ok hl' h0 hlh], Nat.le_refl _, by omega, fun htt => ?_⟩
                  simp only [Option.isSome_none, Bool.false_eq_true, if_false, Bool.and_eq_true, decide_eq_true_eq] at htt
                  have := ht htt.1
                  omega
              · have hb1 := run_sliceBound_ok (P := P) (code := .sliceAcap) hh' (show 0 ≤ hh by omega) (show hh ≤ ((cap : Nat) : Int) by omega) w
                rcases el with ⟨rfl, hl'⟩ | ⟨xl, kl, rfl, hl'⟩
                · subst hl'
                  refine ⟨cap, by simp [Instr.sliceBounds, hb1], Nat.le_refl _, by omega, fun htt => ?_⟩
                  simp only [Option.isSome_none, Bool.false_eq_true, if_false, Bool.and_eq_true, decide_eq_true_eq] at htt
                  have := ht htt.1
                  omega
                · refine ⟨cap, by simp [Instr.sliceBounds, hb1, run_sliceBound_ok hl' h0 (show l ≤ ((hh.toNat : Nat) : Int) by omega)], Nat.le_refl _, by omega, fun htt => ?_⟩
                  simp only [Option.isSome_none, Bool.false_eq_true, if_false, Bool.and_eq_true, decide_eq_true_eq] at htt
                  have := ht htt.1
                  omega
            · rcases eh with ⟨rfl, hh'⟩ | ⟨xh, kh, rfl, hh'⟩
              · simp at hmx
              · have hb0 := run_sliceBound_ok (P := P) (code := .slice3Acap) hm' (show 0 ≤ m by omega) (show m ≤ ((cap : Nat) : Int) by omega) w
                have hb1 := run_sliceBound_ok (P := P) (code := .slice3B) hh' (show 0 ≤ hh by omega) (show hh ≤ ((m.toNat : Nat) : Int) by omega) w
                rcases el with ⟨rfl, hl'⟩ | ⟨xl, kl, rfl, hl'⟩
                · subst hl'
                  refine ⟨m.toNat, by simp [Instr.sliceBounds, hb0, hb1], by omega, by omega, fun htt => ?_⟩
                  simp only [Option.isSome_some, if_true, decide_eq_true_eq] at htt
                  omega
                · refine ⟨m.toNat, by simp [Instr.sliceBounds, hb0, hb1, run_sliceBound_ok hl' h0 (show l ≤ ((hh.toNat : Nat) : Int) by omega)], by omega, by omega, fun htt => ?_⟩
                  simp only [Option.isSome_some, if_true, decide_eq_true_eq] at htt
                  omega
          obtain ⟨m', hbr, hmc, hle, htight⟩ := hbnd
          have hrun : (Instr.sliceAt t (.slice ao xs.length cap) (lo.map a.eval) (hi.map a.eval) (mx.map a.eval)).run P w =
              .ok (.slice (if m' = l.toNat then ao else ao.map (·.add (l.toNat * sz))) (hh.toNat - l.toNat) (m' - l.toNat)) w := by
            simp [Instr.sliceAt, Instr.slice, run_underlying he, hbr, szT_run hsl]
          have hlen' : ((xs.drop l.toNat).take (hh.toNat - l.toNat)).length = hh.toNat - l.toNat := by
            rw [List.length_take, List.length_drop]; omega
          have hget : ∀ i e, ((xs.drop l.toNat).take (hh.toNat - l.toNat))[i]? = some e → xs[l.toNat + i]? = some e := by
            intro i e hi
            rw [List.getElem?_take] at hi
            split at hi
            · rwa [List.getElem?_drop] at hi
            · cases hi
          refine ⟨_, hrun, .t ?_⟩
          conv => rhs; rw [← hlen']
          refine .sl (fun i j => g (l.toNat + i) j) (by rw [hlen']; omega) (fun htt => by
            rw [hlen', htight (by
              by_cases hb : (if mx.isSome then decide (m = hh) else decide (tt = .tight) && decide (hh = xs.length)) = true
              · exact hb
              · rw [if_neg hb] at htt; cases htt)]) (fun hn => by
            exfalso
            by_cases hb : (if mx.isSome then decide (m = hh) else decide (tt = .tight) && decide (hh = xs.length)) = true
            · rw [if_pos hb] at hn; cases hn
            · rw [if_neg hb] at hn; cases hn) (fun hn => ?_) (by rw [hlen']; omega) ?_ (fun e hmem => ?_) (fun i j e x he' hx => hrep _ _ _ _ (hget i e he') hx)
          · have hao : ao = none := by
              by_cases e : m' = l.toNat
              · rwa [if_pos e] at hn
              · rw [if_neg e] at hn; simpa using hn
            have hc0 := hnil hao
            have : m' ≤ cap := hmc
            omega
          · by_cases hz : hh.toNat - l.toNat = 0
            · left
              rw [hz, List.take_zero]
            · right
              have hne : xs ≠ [] := by rintro rfl; simp at hml; omega
              obtain ⟨b, o, rfl, hb, hc⟩ := ha.resolve_left hne
              refine ⟨b, o + l.toNat * sz, by rw [if_neg (by omega)]; simp [addr_add], hb, fun i j hi hj => ?_⟩
              rw [hlen'] at hi
              have := hc (l.toNat + i) j (by omega) hj
              rw [Nat.add_mul] at this
              rw [← this]
              congr 2
              omega
          · obtain ⟨i, hi⟩ := List.getElem?_of_mem hmem
            exact hlen e (List.mem_of_getElem? (hget i e hi))
        · cases hsl
      · cases hq
    · cases hq
  · cases hq

end
end Go.PS
