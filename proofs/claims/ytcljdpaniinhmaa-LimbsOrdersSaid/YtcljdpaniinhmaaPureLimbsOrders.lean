/- The law of orders and bits is true in plain Lean: the pure side of LimbsOrders. Condition: words. -/
import Derived.Test.YtcljdpaniinhmaaLx10
import Derived.Test.YtcljdpaniinhmaaV4
import Derived.Test.YtcljdpaniinhmaaV12
import Derived.Test.YtcljdpaniinhmaaV13
namespace Go.Proofs.Ytcljdpaniinhmaa.Pure
open Go.RowKit Go.Proofs.Ytcljdpaniinhmaa.L Go.Proofs.YtcljdpaniinhmaaW.PrintWords Go.Proofs.YtcljdpaniinhmaaW.PrintLast
set_option linter.unusedVariables false

theorem cmpI_back (x y : Int) : cmpI y x = wrap64 (-(cmpI x y)) := by
  have h1 : cmpI y x = -(cmpI x y) := by
    unfold cmpI
    by_cases h : x < y
    · rw [if_pos h, if_neg (by omega), if_pos h]
      rfl
    · by_cases h2 : y < x
      · rw [if_pos h2, if_neg h, if_pos h2]
      · rw [if_neg h2, if_neg h, if_neg h, if_neg h2]
        rfl
  have h2 : -1 ≤ cmpI x y ∧ cmpI x y ≤ 1 := by
    unfold cmpI
    split
    · decide
    · split <;> decide
  rw [h1]
  exact (w64 (by omega) (by omega)).symm

theorem orders_mid (a b : List Int) (hla : a.length ≤ 300) (hlb : b.length ≤ 300) (hA : Dig 4294967296 a) (hB : Dig 4294967296 b) : Ev (fun q => sallyportlaw04_LimbsOrders.j0 q a b false) true := by
  by_cases ra : 1 ≤ a.length ∧ a.length ≤ 256
  · obtain ⟨v, hv, iv⟩ := lbits_is a ra.1 ra.2 hA
    obtain ⟨da, ⟨K1, e1⟩, na, ga, va, la⟩ := digits_ev a (by omega) hA
    obtain ⟨u, iu, K2, e2⟩ := rbits_ev da (by omega) ga na
    rw [va] at iu
    have huv : v = u := isBits_unique iv iu
    subst huv
    by_cases rb : 1 ≤ b.length ∧ b.length ≤ 256
    · obtain ⟨db, ⟨K3, e3⟩, nb, gb, vb, lb⟩ := digits_ev b (by omega) hB
      obtain ⟨K4, e4⟩ := lcompare_ev a b ra.1 ra.2 rb.1 rb.2 hA hB
      obtain ⟨K5, e5⟩ := lcompare_ev b a rb.1 rb.2 ra.1 ra.2 hB hA
      obtain ⟨K6, e6⟩ := compare_ev da db ga gb na nb (by omega) (by omega)
      rw [va, vb] at e6
      refine ⟨K1 + K2 + K3 + K4 + K5 + K6 + 1, fun n hn => ?_⟩
      obtain ⟨q, rfl⟩ : ∃ q, n = q + 1 := ⟨n - 1, by omega⟩
      have e1' : sallyportref04_Digits.f q a = _ := e1 q (by omega)
      have e2' : sallyportref04_Bits.f q da = _ := e2 q (by omega)
      have e3' : sallyportref04_Digits.f q b = _ := e3 q (by omega)
      have e4' : limbs_Compare.f q a b = _ := e4 q (by omega)
      have e5' : limbs_Compare.f q b a = _ := e5 q (by omega)
      have e6' : sallyportref04_Compare.f q da db = _ := e6 q (by omega)
      show sallyportlaw04_LimbsOrders.j0 (q + 1) a b false = some true
      simp only [sallyportlaw04_LimbsOrders.j0]
      rw [if_neg (by simp), e4', Option.bind_some, hv, Option.bind_some, law_right, decide_eq_true ra, Option.bind_some, if_pos rfl, e1', Option.bind_some, e2', Option.bind_some, if_pos rfl, law_right, decide_eq_true rb, Option.bind_some, if_pos rfl, e3', Option.bind_some, e6', Option.bind_some, if_pos rfl, e5', Option.bind_some, ← cmpI_back]
      simp
    · obtain ⟨K4, e4⟩ := lcompare_no a b (by omega)
      refine ⟨K1 + K2 + K4 + 1, fun n hn => ?_⟩
      obtain ⟨q, rfl⟩ : ∃ q, n = q + 1 := ⟨n - 1, by omega⟩
      have e1' : sallyportref04_Digits.f q a = _ := e1 q (by omega)
      have e2' : sallyportref04_Bits.f q da = _ := e2 q (by omega)
      have e4' : limbs_Compare.f q a b = _ := e4 q (by omega)
      show sallyportlaw04_LimbsOrders.j0 (q + 1) a b false = some true
      simp only [sallyportlaw04_LimbsOrders.j0]
      rw [if_neg (by simp), e4', Option.bind_some, hv, Option.bind_some, law_right, decide_eq_true ra, Option.bind_some, if_pos rfl, e1', Option.bind_some, e2', Option.bind_some, if_pos rfl, law_right, decide_eq_false rb, Option.bind_some, if_neg (by simp)]
      rfl
  · obtain ⟨K4, e4⟩ := lcompare_no a b (by omega)
    have hv := lbits_no a ra
    refine ⟨K4 + 1, fun n hn => ?_⟩
    obtain ⟨q, rfl⟩ : ∃ q, n = q + 1 := ⟨n - 1, by omega⟩
    have e4' : limbs_Compare.f q a b = _ := e4 q (by omega)
    show sallyportlaw04_LimbsOrders.j0 (q + 1) a b false = some true
    simp only [sallyportlaw04_LimbsOrders.j0]
    rw [if_neg (by simp), e4', Option.bind_some, hv, Option.bind_some, law_right, decide_eq_false ra, Option.bind_some, if_neg (by simp), if_pos rfl]
    rfl

theorem LimbsOrders : sallyportlaw04_LimbsOrders.Pure := by
  intro a b _ _ ha _ _ hb
  obtain ⟨K1, e1⟩ := anchor_ev
  have e3' : ∀ k, sallyportlaw04_LimbsOrders.j0 (k + 1) a b true = some true := fun k => by simp [sallyportlaw04_LimbsOrders.j0]
  by_cases h1 : a.length ≤ 300
  · by_cases h2 : b.length ≤ 300
    · obtain ⟨K2, e2⟩ := orders_mid a b h1 h2 (words_dig ha) (words_dig hb)
      have e1' : sallyportlaw04_anchor.f (K1 + K2 + 1) = _ := e1 _ (by omega)
      have e2' : sallyportlaw04_LimbsOrders.j0 (K1 + K2 + 1) a b false = _ := e2 _ (by omega)
      refine ⟨K1 + K2 + 1, ?_⟩
      unfold sallyportlaw04_LimbsOrders.f
      rw [e1', Option.bind_some, if_pos rfl, if_neg (by omega), decide_eq_false (by omega), e2']
    · have e1' : sallyportlaw04_anchor.f (K1 + 1) = _ := e1 _ (by omega)
      refine ⟨K1 + 1, ?_⟩
      unfold sallyportlaw04_LimbsOrders.f
      rw [e1', Option.bind_some, if_pos rfl, if_neg (by omega), decide_eq_true (by omega), e3']
  · have e1' : sallyportlaw04_anchor.f (K1 + 1) = _ := e1 _ (by omega)
    refine ⟨K1 + 1, ?_⟩
    unfold sallyportlaw04_LimbsOrders.f
    rw [e1', Option.bind_some, if_pos rfl, if_pos (by omega), e3']
end Go.Proofs.Ytcljdpaniinhmaa.Pure
