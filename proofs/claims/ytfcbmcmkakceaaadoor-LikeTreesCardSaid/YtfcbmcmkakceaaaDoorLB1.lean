import Derived.Test.YtfcbmcmkakceaaaDoorLA1
import Derived.Test.YtfcbmcmkakceaaaDoorLW10
import Derived.Test.YtfcbmcmkakceaaaDoorPSD
/- LB1: bits of sets; nodes. -/
set_option linter.unusedVariables false
set_option linter.unusedSimpArgs false
set_option maxRecDepth 20000
namespace Go.Proofs.YtfcbmcmkakceaaaDoor
open Go Go.PS
attribute [simp] eIs cI getD_map glT
theorem wr {n : Int} (h0 : -9223372036854775808 ≤ n) (h1 : n ≤ 9223372036854775807) : IntKind.i64.wrap n = n := wrap_id h0 h1
/-- A list of natural numbers as integers. -/
def iL (l : List Nat) : List Int := l.map fun (x : Nat) => (x : Int)
@[simp] theorem iL_nil : iL [] = [] := rfl
@[simp] theorem iL_cons (x : Nat) (l : List Nat) : iL (x :: l) = (x : Int) :: iL l := rfl
@[simp] theorem iL_append (a b : List Nat) : iL (a ++ b) = iL a ++ iL b := by simp [iL]
@[simp] theorem iL_length (l : List Nat) : (iL l).length = l.length := by simp [iL]
theorem iL_get (l : List Nat) (i : Nat) (h : i < l.length) : (iL l)[i]'(by simpa using h) = (l[i] : Int) := by simp [iL]
theorem iL_at {l : List Nat} {i : Nat} (h : i < l.length) : (iL l)[i]? = some ((l.getD i 0 : Nat) : Int) := by simp [iL, List.getD_eq_getElem?_getD, h]
theorem getD_mem {l : List Nat} {i : Nat} (h : i < l.length) : l.getD i 0 ∈ l := by
  simp [List.getD_eq_getElem?_getD, h]
@[simp] def eNs (l : List Nat) : TL := eIs (iL l)
def tz (s : Nat) : Nat := (ndN s).headD 64
def anU (a b : Int) : Int := bits .and .u64 a b
def ngU (a : Int) : Int := IntKind.u64.wrap (-a)
def mlU (a : Int) : Int := IntKind.u64.wrap (a * 285870213051353865)
def shU (a : Int) : Int := a.fdiv (2 ^ min 58 IntKind.u64.bits)
theorem anU_fold (a b : Int) : bits .and .u64 a b = anU a b := rfl
theorem ngU_fold (a : Int) : IntKind.u64.wrap (-a) = ngU a := rfl
theorem mlU_fold (a : Int) : IntKind.u64.wrap (a * 285870213051353865) = mlU a := rfl
theorem shU_fold (a : Int) : a.fdiv (2 ^ min 58 IntKind.u64.bits) = shU a := rfl
def tzI (n : Int) : Int := shU (mlU (anU n (ngU n)))
def tzR (i : Nat) (x : Nat) : Bool := match deBN[i]? with
  | some y => y == x
  | none => false
theorem tz_all1 : (List.range 4096).all (fun x => x == 0 || ndN x == tz x :: ndN (x &&& (x - 1))) = true := by kernel_rfl
theorem tz_all2 : (List.range 4096).all (fun x => x == 0 || (x &&& (x - 1)).blt x) = true := by kernel_rfl
theorem tz_all3 : (List.range 4096).all (fun x => x == 0 || (tzI x == (tzI x).toNat)) = true := by kernel_rfl
theorem tz_all4 : (List.range 4096).all (fun x => x == 0 || tzR (tzI x).toNat (tz x)) = true := by kernel_rfl
theorem tz_gen (f : Nat → Int) (h3 : (List.range 4096).all (fun x => x == 0 || (f x == (f x).toNat)) = true) (h4 : (List.range 4096).all (fun x => x == 0 || tzR (f x).toNat (tz x)) = true) {x : Nat} (h0 : 0 < x) (h : x < 4096) :
    ∃ i : Nat, f x = i ∧ deBN[i]? = some (tz x) := by
  have h3 := List.all_eq_true.1 h3 x (List.mem_range.2 h)
  have h4 := List.all_eq_true.1 h4 x (List.mem_range.2 h)
  have h0' : (x == 0) = false := by simp; omega
  simp only [h0', Bool.false_or, beq_iff_eq] at h3 h4
  refine ⟨(f x).toNat, h3, ?_⟩
  unfold tzR at h4
  split at h4
  · rename_i y hy
    rw [hy]
    simp at h4
    rw [h4]
  · cases h4
theorem tz_idx {x : Nat} (h0 : 0 < x) (h : x < 4096) : ∃ i : Nat, tzI x = i ∧ deBN[i]? = some (tz x) := tz_gen (fun x => tzI x) tz_all3 tz_all4 h0 h
theorem tz_get {x : Nat} (h0 : 0 < x) (h : x < 4096) : (x &&& (x - 1)) < x ∧ ndN x = tz x :: ndN (x &&& (x - 1)) := by
  have h1 := List.all_eq_true.1 tz_all1 x (List.mem_range.2 h)
  have h2 := List.all_eq_true.1 tz_all2 x (List.mem_range.2 h)
  have h0' : (x == 0) = false := by simp; omega
  simp only [h0', Bool.false_or, beq_iff_eq] at h1 h2
  simp [Nat.blt] at h2
  exact ⟨by omega, h1⟩
theorem bits_mem {s i : Nat} (h : s < 4096) : i ∈ ndN s ↔ s.testBit i = true := by
  simp only [ndN, List.mem_filter, List.mem_range]
  refine ⟨fun h => h.2, fun h2 => ⟨?_, h2⟩⟩
  rcases Nat.lt_or_ge i 12 with h3 | h3
  · exact h3
  · rw [Nat.testBit_lt_two_pow (Nat.lt_of_lt_of_le h (Nat.pow_le_pow_right (n := 2) (i := 12) (by decide) h3))] at h2
    cases h2
theorem bits_lt {s i : Nat} (h : i ∈ ndN s) : i < 12 := by
  simp only [ndN, List.mem_filter, List.mem_range] at h
  exact h.1
theorem bits_len (s : Nat) : (ndN s).length ≤ 12 := Nat.le_trans (List.length_filter_le _ _) (by simp)
theorem deB_get (i : Nat) (x : Nat) (h : deBN[i]? = some x) : (deB.map TL.v)[i]? = some (.v (.int .u8 x)) := by
  simp [deB, h]
@[simp] theorem ev_deB (s : StL) : ev s (.global 3) = .t .ro (.rp (deB.map .v) 0) := rfl
theorem deB_lt (i : Nat) (x : Nat) (h : deBN[i]? = some x) : i < 64 := (List.getElem?_eq_some_iff.1 h).1
theorem tz64_spec (x : Nat) (h0 : 0 < x) (h : x < 4096) : PCall Tryd.prog 136 [.v (.int .u64 x)] (pI (tz x)) [] := by
  obtain ⟨i, hi, hd⟩ := tz_idx h0 h
  obtain ⟨an, han⟩ : ∃ f : Int → Int → Int, ∀ a b, bits .and .u64 a b = f a b := ⟨_, fun _ _ => rfl⟩
  obtain ⟨ng, hng⟩ : ∃ f : Int → Int, ∀ a, IntKind.u64.wrap (-a) = f a := ⟨_, fun _ => rfl⟩
  obtain ⟨lit, hlit⟩ : ∃ l : Int, l = 285870213051353865 := ⟨_, rfl⟩
  obtain ⟨ml, hml⟩ : ∃ f : Int → Int, ∀ a, IntKind.u64.wrap (a * lit) = f a := ⟨_, fun _ => rfl⟩
  obtain ⟨sh, hsh⟩ : ∃ f : Int → Int, ∀ a, a.fdiv (2 ^ min 58 IntKind.u64.bits) = f a := ⟨_, fun _ => rfl⟩
  have hi2 : sh (ml (an x (ng x))) = i := by rw [← hi, ← hng, ← han, ← hml, ← hsh, hlit]; rfl
  have h1 : ((x : Int) == 0) = false := by simp; omega
  have hl := deB_lt i _ hd
  have hl2 : (i : Int) < 64 := by omega
  have hb : tz x ≤ 64 := by
    unfold tz
    cases hh : ndN x with
    | nil => simp
    | cons y l =>
      have := bits_lt (s := x) (i := y) (by rw [hh]; simp)
      simp
      omega
  have hw := wr (n := (tz x : Int)) (by omega) (by omega)
  refine pcall_wp _ Tryd.func136 rfl (by kernel_rfl) rfl ?_
  rw [← hlit]
  clear hlit
  simp -dsimp [h1, han, hng, hml, hsh, hi2, deB_get i _ hd, hl2, -List.getElem?_map, -List.map_map]
  refine retP_c ?_
  simp -dsimp [hw]
theorem tz_spec (x : Nat) (h0 : 0 < x) (h : x < 4096) : PCall Tryd.prog 104 [.v (.int .u64 x)] (pI (tz x)) [] := by
  refine pcall_wp _ Tryd.func104 rfl (by kernel_rfl) rfl ?_
  simp -dsimp
  first
    | refine CallG.by (tz64_spec x h0 h) ?_
    | refine CallGE.by (tz64_spec x h0 h) ?_
    | refine CallGB.by (tz64_spec x h0 h) ?_
  simp -dsimp
  refine retP_c ?_
  simp -dsimp
theorem pop1 (x : Nat) (h : x < 4096) (h0 : 0 < x) : andI (x : Int) (IntKind.i64.wrap ((x : Int) - 1)) = ((x &&& (x - 1) : Nat) : Int) := by
  rw [wr (by omega) (by omega), show (x : Int) - 1 = ((x - 1 : Nat) : Int) by omega]
  exact andI_nat x (x - 1) (by omega) (by omega)
theorem nodes_spec (x : Nat) (h : x < 4096) : PCall Tryd.prog 69 [eI x] (.t .fz (eNs (ndN x))) [] := by
  refine pcall_wp _ Tryd.func69 rfl (by kernel_rfl) rfl ?_
  simp -dsimp
  refine lg_adoptT 3 3 3 1 (by simp; rfl) (by simp) ?_
  refine wk_loop (fun p : Kind × Nat × List Nat => ⟨[(0, .t p.1 (eI p.2.1)), (3, .osl 3)], [(3, .row 3 1 .fz ((iL p.2.2).map cI))]⟩) (fun p => p.2.1 ≤ x ∧ p.2.2 ++ ndN p.2.1 = ndN x) (fun p => p.2.1) (.ro, x, [])
    (le_of (by simp) (by simp)) ⟨Nat.le_refl _, rfl⟩ fun ⟨k, s, l⟩ ⟨hs, hl⟩ => ?_
  dsimp only at hs hl
  simp -dsimp
  refine condX_of (fun hc => ?_) (fun hc => ?_)
  · simp at hc
    obtain ⟨h1, h2⟩ := tz_get (x := s) (by omega) (by omega)
    have hb : (l.length + 1) * 8 ≤ 140737488355328 := by
      have := congrArg List.length hl
      have h3 := bits_len x
      rw [List.length_append, h2, List.length_cons] at this
      omega
    have hp := pop1 s (by omega) (by omega)
    have hu : IntKind.u64.wrap (s : Int) = s := by
      rw [IntKind.wrap_u64]
      omega
    simp -dsimp [hu]
    first
      | refine CallG.by (tz_spec s (by omega) (by omega)) ?_
      | refine CallGE.by (tz_spec s (by omega) (by omega)) ?_
      | refine CallGB.by (tz_spec s (by omega) (by omega)) ?_
    simp -dsimp [hb, hp]
    refine LoopP_next (.fz, s &&& (s - 1), l ++ [tz s]) (le_of (by simp) (by simp)) ⟨by simp only; omega, ?_⟩ (by simp only; omega)
    rw [← hl, h2]
    simp
  · simp at hc
    subst hc
    have : ndN 0 = [] := by kernel_rfl
    rw [this, List.append_nil] at hl
    subst hl
    simp -dsimp
    refine retP_c ?_
    simp -dsimp
end Go.Proofs.YtfcbmcmkakceaaaDoor
