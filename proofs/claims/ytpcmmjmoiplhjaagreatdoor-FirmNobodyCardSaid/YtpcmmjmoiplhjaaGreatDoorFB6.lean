import Derived.Test.YtpcmmjmoiplhjaaGreatDoorLA2
import Derived.Test.YtpcmmjmoiplhjaaGreatDoorFS1
/- FB6: Index and Cut at one byte. -/
set_option linter.unusedVariables false
set_option linter.unusedSimpArgs false
set_option maxRecDepth 20000
namespace Go.Proofs.YtpcmmjmoiplhjaaGreatDoor
open Go Go.PS
attribute [-simp] isKeyK List.map_take
theorem vals_two {vals : Array Value} {a b : Value} (hs : vals.size = 2) (h0 : vals.getD 0 Go.undef = a) (h1 : vals.getD 1 Go.undef = b) : vals = #[a, b] := by
  apply Array.ext (by simpa using hs)
  intro i h h'
  rcases (by simp at h'; omega : i = 0 ∨ i = 1) with rfl | rfl
  · simpa [Array.getD_eq_getD_getElem?, h] using h0
  · simpa [Array.getD_eq_getD_getElem?, h] using h1
theorem pcall_two {f : Nat} {a b v : Value} (hc : Callable Tryz.prog f) (h : ∀ w, Calls Tryz.prog f #[a, b] w fun e w' => e = .returned v ∧ w' = w) : PCall Tryz.prog f [.v a, .v b] (.t .fz (.v v)) [] := by
  refine ⟨hc, fun w S vals hG hS hs hr => ?_⟩
  obtain rfl := vals_two (by simpa using hs) (tv_inv (hr 0 _ rfl)) (tv_inv (hr 1 _ rfl))
  refine Calls.mono (h w) ?_
  rintro e w' ⟨rfl, rfl⟩
  exact ⟨_, fun _ => Go.undef, fun _ _ => False, rfl, Evo.refl _ _, fun m g hg => hg, fun _ _ _ h1 _ => h1.elim, fun _ _ h1 => h1.elim, .t (.v _)⟩
theorem ixb_spec (s : List UInt8) (c : UInt8) : PCall Tryz.prog 189 [sV s, .v (.int .u8 (c.toNat : Int))] (pI (Lib.indexByte s c)) [] := by
  have h := fun w => Tryz.k_IndexByte ⟨s.toArray⟩ (c.toNat : Int) w
  have e : ((c.toNat : Int)).toNat.toUInt8 = c := by simp
  simp only [e, ByteArray.toList_eq] at h
  have hh := pcall_two call189 h
  simpa using hh
theorem cnt_spec (s : List UInt8) (c : UInt8) : PCall Tryz.prog 197 [sV s, sV [c]] (pI (Lib.countByte s c)) [] := by
  have h := fun w => Tryz.k_Count ⟨s.toArray⟩ c w
  simp only [ByteArray.toList_eq] at h
  have hh := pcall_two call197 h
  simpa using hh
theorem bsz (l : List UInt8) : (ByteArray.mk l.toArray).size = l.length := by simp [ByteArray.size]
theorem index_spec (s : List UInt8) (c : UInt8) : PCall Tryz.prog 140 [sV s, sV [c]] (pI (Lib.indexByte s c)) [] := by
  have h1 := bsz [c]
  simp only [List.length_cons, List.length_nil, Nat.zero_add] at h1
  have hi := ixb_spec s c
  by_cases hs : s = [c]
  · subst hs
    have e : Lib.indexByte [c] c = 0 := by simp [Lib.indexByte]
    have e2 : ([c] == [c]) = true := by simp
    rw [e]
    refine pcall_wp _ Tryz.func140 rfl (by kernel_rfl) rfl ?_
    simp -dsimp [h1, e2]
    refine retP_c ?_
    simp -dsimp
  have hs' : ([c] == s) = false := by
    rw [beq_eq_false_iff_ne]
    exact fun e => hs e.symm
  generalize Lib.indexByte s c = I at *
  refine pcall_wp _ Tryz.func140 rfl (by kernel_rfl) rfl ?_
  simp -dsimp [h1, hs']
  first
    | refine CallG.by (hi) ?_
    | refine CallGE.by (hi) ?_
    | refine CallGB.by (hi) ?_
  simp -dsimp
  refine retP_c ?_
  simp -dsimp
theorem bexT (s : List UInt8) (n : Nat) : (ByteArray.mk s.toArray).extract 0 n = ⟨(s.take n).toArray⟩ := by
  apply ByteArray.ext
  simp
theorem bexD (s : List UInt8) (n : Nat) : (ByteArray.mk s.toArray).extract n s.length = ⟨(s.drop n).toArray⟩ := by
  apply ByteArray.ext
  simp
  exact List.take_of_length_le (by simp)
theorem ixb_lt : ∀ (s : List UInt8) (c : UInt8), 0 ≤ Lib.indexByte s c → (Lib.indexByte s c).toNat < s.length
  | [], c, h => by simp [Lib.indexByte] at h
  | b :: l, c, h => by
    have hge := Lib.indexByte_ge l c
    rw [Lib.indexByte] at h ⊢
    split
    · simp
    · rename_i hb
      rw [if_neg hb] at h
      split at h
      · simp at h
      · rename_i hn
        rw [if_neg hn]
        have : 0 ≤ Lib.indexByte l c := by
          simp at hn
          omega
        have := ixb_lt l c this
        simp only [List.length_cons]
        omega
def cutT (s : List UInt8) (c : UInt8) : TL := if Lib.indexByte s c < 0 then .tup [sV s, sV [], eB false] else .tup [sV (s.take (Lib.indexByte s c).toNat), sV (s.drop ((Lib.indexByte s c).toNat + 1)), eB true]
theorem cut_spec (s : List UInt8) (c : UInt8) (hs : s.length ≤ 1000000) : PCall Tryz.prog 94 [sV s, sV [c]] (.t .fz (cutT s c)) [] := by
  have h1 := bsz [c]
  have h2 := bsz s
  simp only [List.length_cons, List.length_nil, Nat.zero_add] at h1
  have hi := index_spec s c
  have hlt := ixb_lt s c
  have hge := Lib.indexByte_ge s c
  have hT := fun n => bexT s n
  have hD := fun n => bexD s n
  unfold cutT
  generalize Lib.indexByte s c = I at *
  refine pcall_wp _ Tryz.func94 rfl (by kernel_rfl) rfl ?_
  by_cases hI : I < 0
  · have hI' : ¬ 0 ≤ I := by omega
    rw [if_pos hI]
    simp -dsimp
    first
      | refine CallG.by (hi) ?_
      | refine CallGE.by (hi) ?_
      | refine CallGB.by (hi) ?_
    simp -dsimp [hI']
    refine retP_c ?_
    simp -dsimp
  · have hI' : 0 ≤ I := by omega
    have hl := hlt hI'
    have w1 := wr (n := I + 1) (by omega) (by omega)
    have b1 : I ≤ (s.length : Int) := by omega
    have b2 : I + 1 ≤ (s.length : Int) := by omega
    have b3 : 0 ≤ I + 1 := by omega
    have e1 : (I + 1).toNat = I.toNat + 1 := by omega
    rw [if_neg hI]
    simp -dsimp
    first
      | refine CallG.by (hi) ?_
      | refine CallGE.by (hi) ?_
      | refine CallGB.by (hi) ?_
    simp -dsimp [hI']
    refine wk_draw 10 [] mixed (by kernel_rfl) ?_
    simp -dsimp [h1, h2, w1, b1, b2, b3, hI', hT, hD, e1]
    refine retP_c ?_
    simp -dsimp
theorem Cut_spec (s : List UInt8) (c : UInt8) (hs : s.length ≤ 1000000) : PCall Tryz.prog 58 [sV s, sV [c]] (.t .fz (cutT s c)) [] := by
  have hi := cut_spec s c hs
  unfold cutT at *
  refine pcall_wp _ Tryz.func58 rfl (by kernel_rfl) rfl ?_
  split
  · rename_i h
    rw [if_pos h] at hi
    simp -dsimp
    first
      | refine CallG.by (hi) ?_
      | refine CallGE.by (hi) ?_
      | refine CallGB.by (hi) ?_
    simp -dsimp
    refine retP_c ?_
    simp -dsimp
  · rename_i h
    rw [if_neg h] at hi
    simp -dsimp
    first
      | refine CallG.by (hi) ?_
      | refine CallGE.by (hi) ?_
      | refine CallGB.by (hi) ?_
    simp -dsimp
    refine retP_c ?_
    simp -dsimp
end Go.Proofs.YtpcmmjmoiplhjaaGreatDoor
