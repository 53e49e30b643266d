/- The law of 1, 0 and 2 is true in plain Lean: the pure side of LimbsOnes. Condition: words. -/
import Derived.Test.YtcljdpaniinhmaaLx10
import Derived.Test.YtcljdpaniinhmaaV3
import Derived.Test.YtcljdpaniinhmaaV4
import Derived.Test.YtcljdpaniinhmaaV6
import Derived.Test.YtcljdpaniinhmaaV10
import Derived.Test.YtcljdpaniinhmaaV12
namespace Go.Proofs.Ytcljdpaniinhmaa.Pure
open Go.RowKit Go.Proofs.Ytcljdpaniinhmaa.L Go.Proofs.YtcljdpaniinhmaaW.PrintWords Go.Proofs.YtcljdpaniinhmaaW.PrintLast
set_option linter.unusedVariables false

theorem V_low {b : Int} {l : List Int} {m : Nat} (hm : m ≤ l.length) : V b (l.take m) = sumN b (dg l) m := by
  unfold V
  rw [List.length_take, Nat.min_eq_left hm]
  refine sumN_congr m (fun i hi => ?_)
  unfold dg
  rw [List.getD_eq_getElem?_getD, List.getD_eq_getElem?_getD, List.getElem?_take_of_lt hi]

theorem V_one (b x : Int) : V b [x] = x := by
  show 0 + x * b ^ 0 = x
  simp

theorem dig_one {b x : Int} (h0 : 0 ≤ x) (h1 : x < b) : Dig b [x] := by
  intro y hy
  simp at hy
  subst hy
  exact ⟨h0, h1⟩

/-- Twice a number, in both spellings. -/
theorem twice_same {t c s w v X : Int} (h1 : t + c * X = v * 2) (h2 : s + w * X = v + v) (t0 : 0 ≤ t) (t1 : t < X) (s0 : 0 ≤ s) (s1 : s < X) (v1 : v < X) (c0 : 0 ≤ c) (w0 : 0 ≤ w) (w1 : w ≤ 1) : c = w ∧ t = s := by
  have hX : 0 < X := by omega
  have hc : c ≤ 1 := by
    by_cases h : c ≤ 1
    · exact h
    · have h3 : 2 * X ≤ c * X := Int.mul_le_mul_of_nonneg_right (by omega) (by omega)
      generalize c * X = y at h1 h3
      omega
  rcases (show c = 0 ∨ c = 1 by omega) with rfl | rfl
  · rcases (show w = 0 ∨ w = 1 by omega) with rfl | rfl
    · rw [Int.zero_mul] at h1 h2
      omega
    · rw [Int.zero_mul] at h1
      rw [Int.one_mul] at h2
      omega
  · rcases (show w = 0 ∨ w = 1 by omega) with rfl | rfl
    · rw [Int.one_mul] at h1
      rw [Int.zero_mul] at h2
      omega
    · rw [Int.one_mul] at h1 h2
      omega

theorem ones_mid (a : List Int) (h1 : 1 ≤ a.length) (h2 : a.length ≤ 255) (hA : Dig 4294967296 a) : Ev (fun q => sallyportlaw04_LimbsOnes.j0 q a false) true := by
  obtain ⟨m1, l1, d1, v1, K1, e1⟩ := lmul_ev a [1] h1 (by decide) (by show a.length + 1 ≤ 256; omega) hA (dig_one (by decide) (by decide))
  obtain ⟨m0, l0, d0, v0, K2, e2⟩ := lmul_ev [0] a (by decide) h1 (by show 1 + a.length ≤ 256; omega) (dig_one (by decide) (by decide)) hA
  obtain ⟨m2, l2, d2, v2, K3, e3⟩ := lmul_ev a [2] h1 (by decide) (by show a.length + 1 ≤ 256; omega) hA (dig_one (by decide) (by decide))
  obtain ⟨s, cy, ls, ds, c0, c1, hs, K4, e4⟩ := ladd_ev a a h1 (by omega) rfl hA hA
  rw [V_one, Int.mul_one] at v1
  rw [V_one, Int.zero_mul] at v0
  rw [V_one] at v2
  have l1' : m1.length = a.length + 1 := l1
  have l0' : m0.length = 1 + a.length := l0
  have l2' : m2.length = a.length + 1 := l2
  clear l1 l0 l2
  have g1 : (0 : Int) ≤ (a.length : Int) := Int.natCast_nonneg _
  have g2 : (a.length : Int) ≤ (m2.length : Int) := by clear v0 v1 v2 hs; omega
  have g3 : (a.length : Int) < (m2.length : Int) := by clear v0 v1 v2 hs; omega
  obtain ⟨K5, e5⟩ := lcompare_ev m1 a (by omega) (by omega) h1 (by omega) d1 hA
  rw [cmpI_zero.2 v1] at e5
  obtain ⟨b0, eb, ib⟩ := lbits_is m0 (by omega) (by omega) d0
  rw [v0] at ib
  obtain rfl : b0 = 0 := isBits_unique ib isBits_zero
  have bA := (V_bound (b := 4294967296) (by decide) hA).2
  have bS := V_bound (b := 4294967296) (by decide) ds
  rw [ls] at bS
  have hlt : (m2.take a.length).length = a.length := by rw [List.length_take]; omega
  have bT := V_bound (b := 4294967296) (by decide) (d2.take a.length)
  rw [hlt] at bT
  have hT := V_low (b := 4294967296) (l := m2) (m := a.length) (by omega)
  have hsplit : V 4294967296 (m2.take a.length) + dg m2 a.length * 4294967296 ^ a.length = V 4294967296 a * 2 := by
    rw [← v2, hT]
    unfold V
    rw [l2']
    rfl
  have htop := d2.dg (by decide) a.length
  obtain ⟨q1, q2⟩ := twice_same hsplit hs bT.1 bT.2 bS.1 bS.2 bA htop.1 c0 c1
  obtain ⟨K6, e6⟩ := lcompare_ev (m2.take a.length) s (by rw [hlt]; exact h1) (by rw [hlt]; omega) (by rw [ls]; exact h1) (by rw [ls]; omega) (d2.take a.length) ds
  rw [cmpI_zero.2 q2] at e6
  clear hsplit hs bT bS bA hT v0 v1 v2 q2
  have ew : wrap64 ((a.length : Int) + 1) = (m2.length : Int) := by rw [w64 (by omega) (by omega)]; omega
  have hne : ((m2.length : Int) != (m2.length : Int)) = false := by simp
  refine ⟨K1 + K2 + K3 + K4 + K5 + K6 + 2, fun n hn => ?_⟩
  obtain ⟨q, rfl⟩ : ∃ q, n = q + 2 := ⟨n - 2, by omega⟩
  have e1' : limbs_Mul.f (q + 1) a [1] = _ := e1 (q + 1) (by omega)
  have e2' : limbs_Mul.f (q + 1) [0] a = _ := e2 (q + 1) (by omega)
  have e3' : limbs_Mul.f (q + 1) a [2] = _ := e3 (q + 1) (by omega)
  have e4' : limbs_Add.f (q + 1) a a = _ := e4 (q + 1) (by omega)
  have e5' : limbs_Compare.f q m1 a = _ := e5 q (by omega)
  have e6' : limbs_Compare.f q (m2.take a.length) s = _ := e6 q (by omega)
  have g4 : ((cy == 1) == (cy == 1)) = true := by simp
  have eb' : limbs_Bits.f m0 = some 0 := eb
  show sallyportlaw04_LimbsOnes.j0 (q + 2) a false = some true
  simp only [sallyportlaw04_LimbsOnes.j0]
  rw [if_neg (by simp), e1', Option.bind_some, e2', Option.bind_some, e3', Option.bind_some, e4', Option.bind_some, if_pos rfl, if_pos rfl, if_pos rfl, if_pos rfl, ew, hne]
  simp only [sallyportlaw04_LimbsOnes.j1]
  rw [if_neg (by simp), e5', Option.bind_some, if_pos rfl, eb', Option.bind_some, if_pos rfl, if_pos g1, if_pos g2, Int.toNat_natCast, e6', Option.bind_some, if_pos rfl, if_pos g3, rd_dg, q1, if_pos g4, decide_eq_true c1]

theorem LimbsOnes : sallyportlaw04_LimbsOnes.Pure := by
  intro a _ _ ha
  obtain ⟨K1, e1⟩ := anchor_ev
  have e3' : ∀ k, sallyportlaw04_LimbsOnes.j0 (k + 1) a true = some true := fun k => by simp [sallyportlaw04_LimbsOnes.j0]
  by_cases ra : 1 ≤ a.length ∧ a.length ≤ 256
  · by_cases h2 : a.length ≤ 255
    · obtain ⟨K2, e2⟩ := ones_mid a ra.1 h2 (words_dig ha)
      have e1' : sallyportlaw04_anchor.f (K1 + K2 + 1) = _ := e1 _ (by omega)
      have e2' : sallyportlaw04_LimbsOnes.j0 (K1 + K2 + 1) a false = _ := e2 _ (by omega)
      refine ⟨K1 + K2 + 1, ?_⟩
      unfold sallyportlaw04_LimbsOnes.f
      rw [e1', Option.bind_some, if_pos rfl, law_right, decide_eq_true ra, Option.bind_some, if_pos rfl, decide_eq_false (by omega), e2']
    · have e1' : sallyportlaw04_anchor.f (K1 + 1) = _ := e1 _ (by omega)
      refine ⟨K1 + 1, ?_⟩
      unfold sallyportlaw04_LimbsOnes.f
      rw [e1', Option.bind_some, if_pos rfl, law_right, decide_eq_true ra, Option.bind_some, if_pos rfl, decide_eq_true (by omega), e3']
  · have e1' : sallyportlaw04_anchor.f (K1 + 1) = _ := e1 _ (by omega)
    refine ⟨K1 + 1, ?_⟩
    unfold sallyportlaw04_LimbsOnes.f
    rw [e1', Option.bind_some, if_pos rfl, law_right, decide_eq_false ra, Option.bind_some, if_neg (by simp), e3']
end Go.Proofs.Ytcljdpaniinhmaa.Pure
