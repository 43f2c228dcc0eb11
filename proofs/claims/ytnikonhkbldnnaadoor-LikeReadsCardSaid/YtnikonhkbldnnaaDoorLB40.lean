import Derived.Test.YtnikonhkbldnnaaDoorLB33
import Derived.Test.YtnikonhkbldnnaaDoorLW18
import Derived.Test.YtnikonhkbldnnaaDoorPSJ
/- LB40: take, must, variable of the parser. -/
set_option linter.unusedVariables false
set_option linter.unusedSimpArgs false
set_option maxRecDepth 20000
namespace Go.Proofs.YtnikonhkbldnnaaDoor
open Go Go.PS
attribute [-simp] isKeyK List.map_take
theorem bsz (l : List UInt8) : (ByteArray.mk l.toArray).size = l.length := by simp [ByteArray.size]
theorem bex (c : UInt8) (r : List UInt8) : (ByteArray.mk (c :: r).toArray).extract 1 (r.length + 1) = ⟨r.toArray⟩ := by
  apply ByteArray.ext
  simp
theorem bex0 (c : UInt8) (r : List UInt8) : (ByteArray.mk (c :: r).toArray).extract 0 1 = ⟨#[c]⟩ := by
  apply ByteArray.ext
  simp
abbrev sV (l : List UInt8) : TL := .v (.string ⟨l.toArray⟩)
theorem hasY (c : UInt8) (r : List UInt8) (h : r.length ≤ 100000) : PCall Tryd.prog 97 [sV (c :: r), sV [c]] (pB true) [] := by
  have h1 := bsz (c :: r)
  have h2 := bsz [c]
  have h3 := bex0 c r
  have h4 : ((r.length : Int) + 1) ≥ 1 := by omega
  simp only [List.length_cons, List.length_nil, Nat.zero_add] at h1 h2
  refine pcall_wp _ Tryd.func97 rfl (by kernel_rfl) rfl ?_
  simp -dsimp [h1, h2, h3, h4]
  refine retP_c ?_
  simp -dsimp
theorem hasN (c x : UInt8) (r : List UInt8) (h : r.length ≤ 100000) (hx : x ≠ c) : PCall Tryd.prog 97 [sV (x :: r), sV [c]] (pB false) [] := by
  have h1 := bsz (x :: r)
  have h2 := bsz [c]
  have h3 := bex0 x r
  have h4 : ((r.length : Int) + 1) ≥ 1 := by omega
  simp only [List.length_cons, List.length_nil, Nat.zero_add] at h1 h2
  refine pcall_wp _ Tryd.func97 rfl (by kernel_rfl) rfl ?_
  simp -dsimp [h1, h2, h3, h4]
  refine retP_c ?_
  simp -dsimp [hx]
theorem hasE (c : UInt8) : PCall Tryd.prog 97 [sV [], sV [c]] (pB false) [] := by
  have h1 := bsz []
  have h2 := bsz [c]
  simp only [List.length_cons, List.length_nil, Nat.zero_add] at h1 h2
  refine pcall_wp _ Tryd.func97 rfl (by kernel_rfl) rfl ?_
  simp -dsimp [h1, h2]
  refine retP_c ?_
  simp -dsimp
theorem has_no (c : UInt8) (s : List UInt8) (h : s.length ≤ 100000) (hn : pTk c s = none) : PCall Tryd.prog 97 [sV s, sV [c]] (pB false) [] := by
  cases s with
  | nil => exact hasE c
  | cons x r =>
    rw [pTk] at hn
    split at hn
    · cases hn
    · rename_i hx
      exact hasN c x r (by simp at h; omega) hx
theorem cutY (c : UInt8) (r : List UInt8) (h : r.length ≤ 100000) : PCall Tryd.prog 88 [sV (c :: r), sV [c]] (.t .fz (.tup [sV r, eB true])) [] := by
  have hh := hasY c r h
  have h1 := bsz (c :: r)
  have h2 := bsz [c]
  have h3 := bex c r
  simp only [List.length_cons, List.length_nil, Nat.zero_add] at h1 h2
  have h4 : (1 : Int) ≤ (r.length : Int) + 1 := by omega
  have h5 : ((r.length : Int) + 1).toNat = r.length + 1 := by omega
  refine pcall_wp _ Tryd.func88 rfl (by kernel_rfl) rfl ?_
  simp -dsimp
  first
    | refine CallG.by (hh) ?_
    | refine CallGE.by (hh) ?_
    | refine CallGB.by (hh) ?_
  simp -dsimp [h1, h2, h3, h4, h5]
  refine retP_c ?_
  simp -dsimp
theorem cutN (c : UInt8) (s : List UInt8) (h : s.length ≤ 100000) (hn : pTk c s = none) : PCall Tryd.prog 88 [sV s, sV [c]] (.t .fz (.tup [sV s, eB false])) [] := by
  have hh := has_no c s h hn
  refine pcall_wp _ Tryd.func88 rfl (by kernel_rfl) rfl ?_
  simp -dsimp
  first
    | refine CallG.by (hh) ?_
    | refine CallGE.by (hh) ?_
    | refine CallGB.by (hh) ?_
  simp -dsimp
  refine retP_c ?_
  simp -dsimp
theorem cutYs (c : UInt8) (r : List UInt8) (h : r.length ≤ 100000) : PCall Tryd.prog 76 [sV (c :: r), sV [c]] (.t .fz (.tup [sV r, eB true])) [] := by
  have hh := cutY c r h
  refine pcall_wp _ Tryd.func76 rfl (by kernel_rfl) rfl ?_
  simp -dsimp
  first
    | refine CallG.by (hh) ?_
    | refine CallGE.by (hh) ?_
    | refine CallGB.by (hh) ?_
  simp -dsimp
  refine retP_c ?_
  simp -dsimp
theorem cutNs (c : UInt8) (s : List UInt8) (h : s.length ≤ 100000) (hn : pTk c s = none) : PCall Tryd.prog 76 [sV s, sV [c]] (.t .fz (.tup [sV s, eB false])) [] := by
  have hh := cutN c s h hn
  refine pcall_wp _ Tryd.func76 rfl (by kernel_rfl) rfl ?_
  simp -dsimp
  first
    | refine CallG.by (hh) ?_
    | refine CallGE.by (hh) ?_
    | refine CallGB.by (hh) ?_
  simp -dsimp
  refine retP_c ?_
  simp -dsimp
/-- The parser with what is left. -/
def pM (s : List UInt8) : List (Nat × Res) := [(1000000, .blk 99 [.t .fz (sV s)])]
theorem takeY (c : UInt8) (r : List UInt8) (h : r.length ≤ 100000) : ECall Tryd.prog 67 [.ptr 1000000 0, .t .fz (sV [c])] (pM (c :: r)) (pB true) (pM r) := by
  have hh := cutYs c r h
  unfold pM
  refine ecall_wp Tryd.func67 rfl (by kernel_rfl) ?_
  simp -dsimp
  first
    | refine CallG.by (hh) ?_
    | refine CallGE.by (hh) ?_
    | refine CallGB.by (hh) ?_
  simp -dsimp
  refine retE_c (by simp -dsimp) (by simp)
theorem takeN (c : UInt8) (s : List UInt8) (h : s.length ≤ 100000) (hn : pTk c s = none) : ECall Tryd.prog 67 [.ptr 1000000 0, .t .fz (sV [c])] (pM s) (pB false) (pM s) := by
  have hh := cutNs c s h hn
  unfold pM
  refine ecall_wp Tryd.func67 rfl (by kernel_rfl) ?_
  simp -dsimp
  first
    | refine CallG.by (hh) ?_
    | refine CallGE.by (hh) ?_
    | refine CallGB.by (hh) ?_
  simp -dsimp
  refine retE_c (by simp -dsimp) (by simp)
abbrev wrC : List PanicEntry := [{ v := .iface 95 (.agg #[]), recovered := false }]
theorem undW : Tryd.prog.underlying 95 = some (.struct #[]) := by kernel_rfl
theorem endx_c {ch : List PanicEntry} {M' : List (Nat × Res)} {s : StL} (h : ∀ q ∈ M', getM M' q.1 = getM s.M q.1 ∨ getM M' q.1 = .dead) : EndX ch M' (.panic ch) s := ⟨rfl, h⟩
theorem mustY (c : UInt8) (r : List UInt8) (h : r.length ≤ 100000) : ECall Tryd.prog 68 [.ptr 1000000 0, .t .fz (sV [c])] (pM (c :: r)) (.tup []) (pM r) := by
  have ht := takeY c r h
  unfold pM at *
  refine ecall_wp Tryd.func68 rfl (by kernel_rfl) ?_
  simp -dsimp
  first
    | refine CallG.on (g := [(1000000, 1000000)]) (ht) (by decide) (by simp) (by simp) (by simp [Sg.bk]) ?_
    | refine CallN.on (g := [(1000000, 1000000)]) (ht) (by decide) (by simp) (by simp) (by simp [Sg.bk]) ?_
    | refine CallGB.on (g := [(1000000, 1000000)]) (ht) (by decide) (by simp) (by simp) (by simp [Sg.bk]) ?_
  simp -dsimp
  refine retE_c (by simp -dsimp) (by simp)
theorem mustN (c : UInt8) (s : List UInt8) (h : s.length ≤ 100000) (hn : pTk c s = none) : XPan Tryd.prog 68 [.ptr 1000000 0, .t .fz (sV [c])] (pM s) wrC (pM s) := by
  have ht := takeN c s h hn
  unfold pM at *
  refine xpan_of Tryd.func68 rfl (by kernel_rfl) (wpkS_sound [1] _ _ _ ?_)
  simp -dsimp
  first
    | refine CallG.on (g := [(1000000, 1000000)]) (ht) (by decide) (by simp) (by simp) (by simp [Sg.bk]) ?_
    | refine CallN.on (g := [(1000000, 1000000)]) (ht) (by decide) (by simp) (by simp) (by simp [Sg.bk]) ?_
    | refine CallGB.on (g := [(1000000, 1000000)]) (ht) (by decide) (by simp) (by simp) (by simp [Sg.bk]) ?_
  simp -dsimp
  refine cw_raise0 undW (by simp) rfl rfl rfl rfl rfl rfl rfl rfl rfl (by decide) (by decide) (endx_c fun q hq => ?_)
  simp at hq
  subst hq
  left
  rfl
end Go.Proofs.YtnikonhkbldnnaaDoor
