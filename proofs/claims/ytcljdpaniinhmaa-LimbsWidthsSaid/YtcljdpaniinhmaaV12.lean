/- What limbs.Compare answers: which number is the greater. Condition: words. -/
import Derived.Test.YtcljdpaniinhmaaV2
import Derived.Test.YtcljdpaniinhmaaLx8
namespace Go.Proofs.Ytcljdpaniinhmaa.Pure
open Go.RowKit Go.Proofs.Ytcljdpaniinhmaa.L Go.Proofs.YtcljdpaniinhmaaW.PrintWords Go.Proofs.YtcljdpaniinhmaaW.PrintLast Go.Proofs.YtcljdpaniinhmaaW.PrintMore
set_option linter.unusedVariables false

theorem at_is (l : List Int) (i : Nat) : limbs_Nat_at.f l (i : Int) = some (dg l i) := by
  unfold limbs_Nat_at.f
  by_cases h : i < l.length
  · rw [if_pos (by omega), if_pos (by omega), rd_dg]
  · rw [if_neg (by omega), dg_above (by omega)]

theorem word_cmp (x y : Int) : cmp_Compare_uint32.f x y = some (cmpI x y) := by
  have hx : cmp_isNaN_uint32.f x = some false := by simp [cmp_isNaN_uint32.f]
  have hy : cmp_isNaN_uint32.f y = some false := by simp [cmp_isNaN_uint32.f]
  unfold cmp_Compare_uint32.f cmpI
  rw [hx, hy, Option.bind_some, Option.bind_some, if_neg (by simp), if_neg (by simp)]
  by_cases h : x < y
  · rw [if_pos h, if_pos h]
  · rw [if_neg h, if_neg h]
    by_cases h2 : y < x
    · rw [if_pos h2, if_pos h2]
    · rw [if_neg h2, if_neg h2]

theorem lcompare_loop (a b : List Int) (hA : Dig 4294967296 a) (hB : Dig 4294967296 b) : ∀ (n : Nat), n ≤ 1000 →
    Ev (fun k => limbs_Compare.l0 k a b ((n : Int) - 1)) (cmpI (sumN 4294967296 (dg a) n) (sumN 4294967296 (dg b) n))
  | 0, _ => by
    refine Ev.step (f := fun _ => some 0) (fun k => ?_) (Ev.now _)
    simp only [limbs_Compare.l0]
    rw [if_neg (by omega)]
  | n + 1, h => by
    have e0 : (((n + 1 : Nat) : Int) - 1) = (n : Int) := by omega
    have e : wrap64 ((n : Int) - 1) = (n : Int) - 1 := w64 (by omega) (by omega)
    have g : (n : Int) ≥ 0 := by omega
    rw [cmpI_step (by decide) (fun i => hA.dg (by decide) i) (fun i => hB.dg (by decide) i), e0]
    by_cases c1 : dg a n < dg b n
    · refine Ev.step (f := fun _ => some (-1)) (fun k => ?_) (by rw [if_pos c1]; exact Ev.now _)
      simp only [limbs_Compare.l0]
      rw [if_pos g, at_is, at_is, Option.bind_some, Option.bind_some, word_cmp, Option.bind_some, show cmpI (dg a n) (dg b n) = -1 from if_pos c1, if_neg (by decide)]
    · by_cases c2 : dg b n < dg a n
      · refine Ev.step (f := fun _ => some 1) (fun k => ?_) (by rw [if_neg c1, if_pos c2]; exact Ev.now _)
        simp only [limbs_Compare.l0]
        rw [if_pos g, at_is, at_is, Option.bind_some, Option.bind_some, word_cmp, Option.bind_some, show cmpI (dg a n) (dg b n) = 1 by unfold cmpI; rw [if_neg c1, if_pos c2], if_neg (by decide)]
      · refine Ev.step (fun k => ?_) (by rw [if_neg c1, if_neg c2]; exact lcompare_loop a b hA hB n (by omega))
        simp only [limbs_Compare.l0]
        rw [if_pos g, at_is, at_is, Option.bind_some, Option.bind_some, word_cmp, Option.bind_some, show cmpI (dg a n) (dg b n) = 0 by unfold cmpI; rw [if_neg c1, if_neg c2], if_pos rfl, e]

/-- Which number is the greater. -/
theorem lcompare_ev (a b : List Int) (h1 : 1 ≤ a.length) (h2 : a.length ≤ 256) (h3 : 1 ≤ b.length) (h4 : b.length ≤ 256) (hA : Dig 4294967296 a) (hB : Dig 4294967296 b) :
    Ev (fun k => limbs_Compare.f k a b) (cmpI (V 4294967296 a) (V 4294967296 b)) := by
  have hloop := lcompare_loop a b hA hB (max a.length b.length) (by omega)
  rw [← V_sum (l := a) (by omega), ← V_sum (l := b) (by omega)] at hloop
  refine Ev.congr (fun k => ?_) hloop
  unfold limbs_Compare.f limbs_right.f
  have e : wrap64 (mx (a.length : Int) (b.length : Int) - 1) = ((max a.length b.length : Nat) : Int) - 1 := by
    have hm : mx (a.length : Int) (b.length : Int) = ((max a.length b.length : Nat) : Int) := by
      unfold mx
      split <;> omega
    rw [hm]
    exact w64 (by omega) (by omega)
  rw [decide_eq_true ⟨h1, h2, h3, h4⟩, Option.bind_some, if_pos rfl, e]

theorem lcompare_no (a b : List Int) (h : ¬ (1 ≤ a.length ∧ a.length ≤ 256 ∧ 1 ≤ b.length ∧ b.length ≤ 256)) : Ev (fun k => limbs_Compare.f k a b) 0 := by
  refine Ev.congr (f := fun _ => some 0) (fun k => ?_) (Ev.now _)
  unfold limbs_Compare.f limbs_right.f
  rw [decide_eq_false h, Option.bind_some, if_neg (by simp)]
end Go.Proofs.Ytcljdpaniinhmaa.Pure
