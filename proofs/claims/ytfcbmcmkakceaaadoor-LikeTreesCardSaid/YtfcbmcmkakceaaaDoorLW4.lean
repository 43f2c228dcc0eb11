import Derived.Test.YtfcbmcmkakceaaaDoorLW3
/- LW4: maps from two graphs side by side. No program in sight. -/
set_option linter.unusedVariables false
set_option linter.unusedSimpArgs false
namespace Go.Proofs.YtfcbmcmkakceaaaDoor
theorem fit_left {s t g b : List Nat} (hb : b.length < s.length) (x : Nat) : fitN (besN s t) g b x = fitN s g b x := by
  unfold fitN nbN
  rw [bes_left hb]
theorem fit_right {s t g b0 b1 : List Nat} (h0 : b0.length = s.length) (h1 : b1.length < t.length) (x : Nat) : fitN (besN s t) g (b0 ++ b1) x = fitN t g b1 x := by
  unfold fitN nbN
  rw [List.length_append, h0, bes_right h1, List.range_add, List.all_append, List.all_map]
  have e1 : (List.range s.length).all (fun u => !((t.getD b1.length 0 <<< s.length).testBit u) || (g.getD ((b0 ++ b1).getD u 0) 0).testBit x) = true := by
    rw [List.all_eq_true]
    intro u hu
    have := List.mem_range.1 hu
    simp [Nat.testBit_shiftLeft]
    omega
  rw [e1, Bool.true_and]
  congr 1
  funext u
  simp only [Function.comp]
  have e2 : (t.getD b1.length 0 <<< s.length).testBit (s.length + u) = (t.getD b1.length 0).testBit u := by simp [Nat.testBit_shiftLeft]
  have e3 : (b0 ++ b1).getD (s.length + u) 0 = b1.getD u 0 := by
    rw [← h0]
    simp [List.getD_eq_getElem?_getD, List.getElem?_append_right]
  rw [e2, e3]
theorem maps_right {s t g b0 : List Nat} (h0 : b0.length = s.length) : ∀ (f : Nat) (b1 : List Nat), f + b1.length = t.length → mapsN (besN s t) g f (b0 ++ b1) = mapsN t g f b1
  | 0, _, _ => rfl
  | f + 1, b1, h => by
    rw [mapsN, mapsN]
    congr 1
    refine List.map_congr_left fun x _ => ?_
    rw [fit_right h0 (by omega)]
    split
    · rw [List.append_assoc]
      exact maps_right h0 f (b1 ++ [x]) (by simp; omega)
    · rfl
theorem sum_mul (k : Nat) : ∀ l : List Nat, (l.map (· * k)).sum = l.sum * k
  | [] => by simp
  | x :: l => by simp [sum_mul k l, Nat.add_mul]
theorem maps_left {s t g : List Nat} : ∀ (f : Nat) (b : List Nat), f + b.length = s.length → mapsN (besN s t) g (f + t.length) b = mapsN s g f b * mapsN t g t.length []
  | 0, b, h => by
    rw [mapsN, Nat.one_mul, Nat.zero_add]
    have := maps_right (s := s) (t := t) (g := g) (b0 := b) (by omega) t.length [] (by simp)
    rwa [List.append_nil] at this
  | f + 1, b, h => by
    rw [show f + 1 + t.length = (f + t.length) + 1 by omega, mapsN, mapsN, ← sum_mul, List.map_map]
    congr 1
    refine List.map_congr_left fun x _ => ?_
    simp only [Function.comp]
    rw [fit_left (by omega)]
    split
    · exact maps_left f (b ++ [x]) (by simp; omega)
    · simp
theorem unions_true (s t g : List Nat) : mapsN (besN s t) g (besN s t).length [] = mapsN s g s.length [] * mapsN t g t.length [] := by
  rw [bes_len]
  exact maps_left s.length [] (by simp)
end Go.Proofs.YtfcbmcmkakceaaaDoor
