import Derived.Test.YtpcmmjmoiplhjaaGreatDoorLA1
import Derived.Test.YtpcmmjmoiplhjaaGreatDoorPSJ
/- LA2: more facts of types; small words. -/
set_option linter.unusedVariables false
set_option linter.unusedSimpArgs false
set_option maxRecDepth 20000
namespace Go.Proofs.YtpcmmjmoiplhjaaGreatDoor
open Go Go.PS
@[simp] theorem g_u8 : u8T Tryz.prog 5 = true := by kernel_rfl
@[simp] theorem g_it : itT Tryz.prog 91 = true := by kernel_rfl
@[simp] theorem g_ni1 : niT Tryz.prog 185 = true := by kernel_rfl
@[simp] theorem g_ni2 : niT Tryz.prog 188 = true := by kernel_rfl
@[simp] theorem g_ic : icT Tryz.prog 185 = true := by kernel_rfl
@[simp] theorem g_pt1 : ptT Tryz.prog 23 = true := by kernel_rfl
@[simp] theorem g_pt2 : ptT Tryz.prog 24 = true := by kernel_rfl
@[simp] theorem g_pt3 : ptT Tryz.prog 45 = true := by kernel_rfl
@[simp] theorem g_pt4 : ptT Tryz.prog 51 = true := by kernel_rfl
theorem wr {n : Int} (h0 : -9223372036854775808 ≤ n) (h1 : n ≤ 9223372036854775807) : IntKind.i64.wrap n = n := wrap_id h0 h1
abbrev eI (n : Int) : TL := .v (.int .i64 n)
abbrev eB (b : Bool) : TL := .v (.bool b)
abbrev pI (n : Int) : PV := .t .fz (.v (.int .i64 n))
abbrev pB (b : Bool) : PV := .t .fz (.v (.bool b))
abbrev nilP : PV := .t .fz (.v (.slice none 0 0))
abbrev nilA : PV := .t .fz (.v (.pointer none))
abbrev sV (l : List UInt8) : TL := .v (.string ⟨l.toArray⟩)
abbrev sP (l : List UInt8) : PV := .t .fz (sV l)
/-- The cells of a disk. -/
def dk (b0 : PV) (s0 : Int) (b1 : PV) (s1 size : Int) (off : Bool) (fuse : Int) : Res := .blk 41 [b0, pI s0, b1, pI s1, pI size, pB off, pI fuse]
end Go.Proofs.YtpcmmjmoiplhjaaGreatDoor
