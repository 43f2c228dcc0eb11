import Derived.Test.YtnikonhkbldnnaaDoorLR12
/- LR13: the reference reads what rP reads. -/
set_option linter.unusedVariables false
set_option linter.unusedSimpArgs false
set_option maxRecDepth 20000
namespace Go.Proofs.YtnikonhkbldnnaaDoor
open Go Go.PS
attribute [-simp] isKeyK List.map_take
theorem isV_iff {c : UInt8} : isV c = true ↔ 97 ≤ c.toNat ∧ c.toNat ≤ 100 := by
  unfold isV
  simp
set_option maxHeartbeats 2000000 in
theorem psd_fail (d n : Nat) (hd : d < 99) (hn : n + 1 ≤ 2000) (c x y : UInt8) (r : List UInt8) (hr : r.length < 100000) (h33 : c ≠ 33) (h40 : c ≠ 40) (g1 : ¬ (c = 69 ∧ isV x = true ∧ y = 32)) (g2 : ¬ (isV c = true ∧ (x = 61 ∨ x = 126) ∧ isV y = true)) :
    ECall Tryd.prog 39 [sP (c :: x :: y :: r), pI (d + 1 : Nat), .ptr 1000000 0] (nM n) (.tup [g4 ByteArray.empty 0 0 [], sP (c :: x :: y :: r), pB false]) (nM (n + 1)) := by
  have w1 := wr (n := (n : Int) + 1) (by omega) (by omega)
  have w2 := wr (n := (d : Int)) (by omega) (by omega)
  have hd1 : ¬ ((d : Int) + 1 < 1) := by omega
  have hn1 : ¬ ((2000 : Int) < (n : Int) + 1) := by omega
  have g3 : ¬ ((r.length : Int) + 1 + 1 + 1 < 3) := by omega
  have n33 : ((c.toNat : Int) == 33) = false := byte_ne h33
  have n40 : ((c.toNat : Int) == 40) = false := byte_ne h40
  have s1 : (ByteArray.mk (c :: x :: y :: r).toArray).size = r.length + 1 + 1 + 1 := by simp [ByteArray.size]
  rw [isV_iff] at g1 g2
  rw [isV_iff] at g2
  refine ecall_weak (fun w φ St v hSt h => g4_nil hSt h) ?_
  unfold nM nilT at *
  refine ecall_wp Tryd.func39 rfl (by kernel_rfl) ?_
  by_cases e1 : c = 69
  · subst e1
    by_cases a1 : 97 ≤ x.toNat
    · have a1' : (97 : Int) ≤ (x.toNat : Int) := by omega
      by_cases a2 : x.toNat ≤ 100
      · have a2' : (x.toNat : Int) ≤ 100 := by omega
        have a3 : ((y.toNat : Int) == 32) = false := byte_ne fun e => g1 ⟨rfl, ⟨a1, a2⟩, e⟩
        simp -dsimp [w1, hd1, hn1, s1, g3, n33, n40, a1', a2', a3]
        refine retE_c (by simp -dsimp) (by simp)
      · have a2' : ¬ ((x.toNat : Int) ≤ 100) := by omega
        simp -dsimp [w1, hd1, hn1, s1, g3, n33, n40, a1', a2']
        refine retE_c (by simp -dsimp) (by simp)
    · have a1' : ¬ ((97 : Int) ≤ (x.toNat : Int)) := by omega
      simp -dsimp [w1, hd1, hn1, s1, g3, n33, n40, a1']
      refine retE_c (by simp -dsimp) (by simp)
  have n69 : ((c.toNat : Int) == 69) = false := byte_ne e1
  by_cases b1 : 97 ≤ c.toNat
  · have b1' : (97 : Int) ≤ (c.toNat : Int) := by omega
    by_cases b2 : c.toNat ≤ 100
    · have b2' : (c.toNat : Int) ≤ 100 := by omega
      by_cases x1 : x = 61
      · subst x1
        by_cases y1 : 97 ≤ y.toNat
        · have y1' : (97 : Int) ≤ (y.toNat : Int) := by omega
          have y2' : ¬ ((y.toNat : Int) ≤ 100) := fun e => g2 ⟨⟨b1, b2⟩, (.inl rfl), ⟨y1, by omega⟩⟩
          simp -dsimp [w1, hd1, hn1, s1, g3, n33, n40, n69, b1', b2', y1', y2']
          refine retE_c (by simp -dsimp) (by simp)
        · have y1' : ¬ ((97 : Int) ≤ (y.toNat : Int)) := by omega
          simp -dsimp [w1, hd1, hn1, s1, g3, n33, n40, n69, b1', b2', y1']
          refine retE_c (by simp -dsimp) (by simp)
      by_cases x2 : x = 126
      · subst x2
        by_cases y1 : 97 ≤ y.toNat
        · have y1' : (97 : Int) ≤ (y.toNat : Int) := by omega
          have y2' : ¬ ((y.toNat : Int) ≤ 100) := fun e => g2 ⟨⟨b1, b2⟩, (.inr rfl), ⟨y1, by omega⟩⟩
          simp -dsimp [w1, hd1, hn1, s1, g3, n33, n40, n69, b1', b2', y1', y2']
          refine retE_c (by simp -dsimp) (by simp)
        · have y1' : ¬ ((97 : Int) ≤ (y.toNat : Int)) := by omega
          simp -dsimp [w1, hd1, hn1, s1, g3, n33, n40, n69, b1', b2', y1']
          refine retE_c (by simp -dsimp) (by simp)
      have x1' : ((x.toNat : Int) == 61) = false := byte_ne x1
      have x2' : ((x.toNat : Int) == 126) = false := byte_ne x2
      simp -dsimp [w1, hd1, hn1, s1, g3, n33, n40, n69, b1', b2', x1', x2']
      refine retE_c (by simp -dsimp) (by simp)
    · have b2' : ¬ ((c.toNat : Int) ≤ 100) := by omega
      simp -dsimp [w1, hd1, hn1, s1, g3, n33, n40, n69, b1', b2']
      refine retE_c (by simp -dsimp) (by simp)
  · have b1' : ¬ ((97 : Int) ≤ (c.toNat : Int)) := by omega
    simp -dsimp [w1, hd1, hn1, s1, g3, n33, n40, n69, b1']
    refine retE_c (by simp -dsimp) (by simp)
theorem parsed_spec : ∀ (d : Nat), d < 99 → ∀ (n : Nat), n < 10000 → ∀ (s : List UInt8), s.length < 100000 → (∀ f r m, rP d s n = (some (f, r), m) → rY d n s f r m) ∧ (∀ m, rP d s n = (none, m) → rN d n s m)
  | 0, _, n, hn, s, hs => by
    rw [rP]
    refine ⟨fun f r m h => (by cases h), fun m h => ?_⟩
    cases h
    exact psd_no s 0 n (by omega) hn (.inr (.inl (by omega)))
  | d + 1, hd, n, hn, s, hs => by
    have ih := parsed_spec d (by omega)
    rw [rP]
    unfold rS
    by_cases h0 : 2000 < n + 1
    · rw [if_pos h0]
      refine ⟨fun f r m h => (by cases h), fun m h => ?_⟩
      cases h
      exact psd_no s (d + 1) n (by omega) hn (.inr (.inr h0))
    rw [if_neg h0]
    cases s with
    | nil =>
      refine ⟨fun f r m h => (by cases h), fun m h => ?_⟩
      cases h
      exact psd_no [] (d + 1) n (by omega) hn (.inl rfl)
    | cons c s1 =>
      simp only [List.length_cons] at hs
      simp only
      by_cases h33 : c = 33
      · subst h33
        rw [if_pos rfl]
        have ih1 := ih (n + 1) (by omega) s1 (by omega)
        rcases hp : rP d s1 (n + 1) with ⟨_ | ⟨k, r⟩, m⟩
        · simp only
          refine ⟨fun f r m h => (by cases h), fun m' h => ?_⟩
          cases h
          obtain ⟨r, o, a, b, ks, h1⟩ := ih1.2 m hp
          exact ⟨r, _, _, _, _, psd33 d n m (by omega) (by omega) s1 r (by omega) false o a b ks h1⟩
        · simp only
          refine ⟨fun f r' m' h => ?_, fun m' h => by cases h⟩
          cases h
          obtain ⟨o, a, b, ks, hz, h1⟩ := ih1.1 k r m hp
          exact ⟨_, _, _, _, by rw [ftOf, hz], psd33 d n m (by omega) (by omega) s1 r (by omega) true o a b ks h1⟩
      rw [if_neg h33]
      by_cases h40 : c = 40
      · subst h40
        rw [if_pos rfl]
        have ih1 := ih (n + 1) (by omega) s1 (by omega)
        rcases hp : rP d s1 (n + 1) with ⟨_ | ⟨k, r⟩, m⟩
        · simp only
          refine ⟨fun f r m h => (by cases h), fun m' h => ?_⟩
          cases h
          obtain ⟨r, o, a, b, ks, h1⟩ := ih1.2 m hp
          exact ⟨_, _, _, _, _, psd40a d n m (by omega) (by omega) s1 r (by omega) o a b ks h1⟩
        · obtain ⟨o, a, b, ks, hz, h1⟩ := ih1.1 k r m hp
          obtain ⟨e1, _, _, _, hm⟩ := rP_of hp
          have hl : r.length ≤ s1.length := by rw [e1]; simp
          simp only
          cases r with
          | nil =>
            simp only [pTk]
            refine ⟨fun f r m h => (by cases h), fun m' h => ?_⟩
            cases h
            exact ⟨_, _, _, _, _, psd40b d n m (by omega) (by omega) s1 (by omega) o a b ks h1⟩
          | cons c1 r1 =>
            simp only [List.length_cons] at hl
            by_cases hc1 : c1 = 38
            · subst hc1
              rw [pTk_eq]
              simp only
              have ih2 := ih m (by omega) r1 (by omega)
              rcases hp2 : rP d r1 m with ⟨_ | ⟨k2, r2⟩, m2⟩
              · simp only
                refine ⟨fun f r m h => (by cases h), fun m' h => ?_⟩
                cases h
                obtain ⟨r2, o2, a2, b2, ks2, h2⟩ := ih2.2 m2 hp2
                exact ⟨_, _, _, _, _, psd40d d n m2 (by omega) (by omega) m s1 r1 r2 (by omega) (by omega) o a b ks o2 a2 b2 ks2 h1 h2⟩
              · obtain ⟨o2, a2, b2, ks2, hz2, h2⟩ := ih2.1 k2 r2 m2 hp2
                obtain ⟨e2, _, _, _, hm2⟩ := rP_of hp2
                have hl2 : r2.length ≤ r1.length := by rw [e2]; simp
                simp only
                cases r2 with
                | nil =>
                  simp only [pTk]
                  refine ⟨fun f r m h => (by cases h), fun m' h => ?_⟩
                  cases h
                  exact ⟨_, _, _, _, _, psd40e d n m2 (by omega) (by omega) m s1 r1 [] (by omega) (by omega) o a b ks o2 a2 b2 ks2 h1 h2⟩
                | cons c2 r3 =>
                  simp only [List.length_cons] at hl2
                  by_cases hc2 : c2 = 41
                  · subst hc2
                    rw [pTk_eq]
                    simp only
                    refine ⟨fun f r' m' h => ?_, fun m' h => by cases h⟩
                    cases h
                    exact ⟨_, _, _, _, by rw [ftOf, hz, hz2], psd40g d n m2 (by omega) (by omega) m s1 r1 r3 (by omega) (by omega) (by omega) o a b ks o2 a2 b2 ks2 h1 h2⟩
                  · rw [pTk_ne hc2]
                    simp only
                    refine ⟨fun f r m h => (by cases h), fun m' h => ?_⟩
                    cases h
                    exact ⟨_, _, _, _, _, psd40f d n m2 (by omega) (by omega) m s1 r1 r3 c2 hc2 (by omega) (by omega) o a b ks o2 a2 b2 ks2 h1 h2⟩
            · rw [pTk_ne hc1]
              simp only
              refine ⟨fun f r m h => (by cases h), fun m' h => ?_⟩
              cases h
              exact ⟨_, _, _, _, _, psd40c d n m (by omega) (by omega) s1 r1 c1 hc1 (by omega) o a b ks h1⟩
      rw [if_neg h40]
      match s1, hs with
      | [], hs =>
        simp only
        refine ⟨fun f r m h => (by cases h), fun m' h => ?_⟩
        cases h
        exact ⟨_, _, _, _, _, psds1 d n (by omega) (by omega) c h33 h40⟩
      | [x], hs =>
        simp only
        refine ⟨fun f r m h => (by cases h), fun m' h => ?_⟩
        cases h
        exact ⟨_, _, _, _, _, psds2 d n (by omega) (by omega) c x h33 h40⟩
      | x :: y :: r, hs =>
        simp only [List.length_cons] at hs
        simp only
        by_cases g1 : c = 69 ∧ isV x = true ∧ y = 32
        · rw [if_pos g1]
          obtain ⟨rfl, hx, rfl⟩ := g1
          obtain ⟨hv, hx2⟩ := isV_of hx
          generalize hvv : x.toNat - 97 = v at *
          subst hx2
          have ih1 := ih (n + 1) (by omega) r (by omega)
          rcases hp : rP d r (n + 1) with ⟨_ | ⟨k, r2⟩, m⟩
          · simp only
            refine ⟨fun f r m h => (by cases h), fun m' h => ?_⟩
            cases h
            obtain ⟨r2, o, a, b, ks, h1⟩ := ih1.2 m hp
            exact ⟨r2, _, _, _, _, psd69 d n m (by omega) (by omega) v hv r r2 (by omega) false o a b ks h1⟩
          · simp only
            refine ⟨fun f r' m' h => ?_, fun m' h => by cases h⟩
            cases h
            obtain ⟨o, a, b, ks, hz, h1⟩ := ih1.1 k r2 m hp
            exact ⟨_, _, _, _, by rw [ftOf, hz], psd69 d n m (by omega) (by omega) v hv r r2 (by omega) true o a b ks h1⟩
        rw [if_neg g1]
        by_cases g2 : isV c = true ∧ (x = 61 ∨ x = 126) ∧ isV y = true
        · rw [if_pos g2]
          obtain ⟨hc, hx, hy⟩ := g2
          obtain ⟨hi, hc2⟩ := isV_of hc
          obtain ⟨hj, hy2⟩ := isV_of hy
          generalize c.toNat - 97 = i at *
          generalize y.toNat - 97 = j at *
          subst hc2 hy2
          refine ⟨fun f r' m' h => ?_, fun m' h => by cases h⟩
          by_cases hx6 : x = 61
          · subst hx6
            simp only [if_true] at h
            cases h
            exact ⟨_, _, _, _, by rw [ftOf], psd61 d n (by omega) (by omega) i j hi hj r (by omega)⟩
          · obtain rfl := hx.resolve_left hx6
            rw [if_neg hx6] at h
            cases h
            exact ⟨_, _, _, _, by rw [ftOf], psd126 d n (by omega) (by omega) i j hi hj r (by omega)⟩
        · rw [if_neg g2]
          refine ⟨fun f r m h => (by cases h), fun m' h => ?_⟩
          cases h
          exact ⟨_, _, _, _, _, psd_fail d n (by omega) (by omega) c x y r (by omega) h33 h40 g1 g2⟩
end Go.Proofs.YtnikonhkbldnnaaDoor
