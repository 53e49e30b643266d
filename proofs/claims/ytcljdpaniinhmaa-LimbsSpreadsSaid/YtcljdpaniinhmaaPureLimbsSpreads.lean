/- The law of a product with a sum is true in plain Lean: the pure side of LimbsSpreads. Condition: words. -/
import Derived.Test.YtcljdpaniinhmaaLx8
import Derived.Test.YtcljdpaniinhmaaV3
import Derived.Test.YtcljdpaniinhmaaV4
import Derived.Test.YtcljdpaniinhmaaV6
import Derived.Test.YtcljdpaniinhmaaV12
namespace Go.Proofs.Ytcljdpaniinhmaa.Pure
open Go.RowKit Go.Proofs.Ytcljdpaniinhmaa.L Go.Proofs.YtcljdpaniinhmaaW.PrintWords Go.Proofs.YtcljdpaniinhmaaW.PrintLast
set_option linter.unusedVariables false

theorem no_carry {o cy p q r X : Int} (h : o + cy * X = p + q) (ho0 : 0 ≤ o) (hr : p + q = r) (hrX : r < X) (c0 : 0 ≤ cy) (c1 : cy ≤ 1) : cy = 0 ∧ o = r := by
  rcases (show cy = 0 ∨ cy = 1 by omega) with rfl | rfl
  · rw [Int.zero_mul] at h
    omega
  · rw [Int.one_mul] at h
    omega

theorem spreads_tail (a b c s : List Int) (h1 : 1 ≤ a.length) (h2 : 1 ≤ b.length) (h3 : a.length + b.length ≤ 256) (h4 : c.length = b.length) (hA : Dig 4294967296 a) (hB : Dig 4294967296 b) (hC : Dig 4294967296 c)
    (hls : s.length = b.length) (hds : Dig 4294967296 s) (hs : V 4294967296 s = V 4294967296 b + V 4294967296 c) :
    Ev (fun q => sallyportlaw04_LimbsSpreads.j1 q a b c s 0 false) true := by
  obtain ⟨p, lp, dp, vp, K1, e1⟩ := lmul_ev a s h1 (by omega) (by omega) hA hds
  obtain ⟨p1, lp1, dp1, vp1, K2, e2⟩ := lmul_ev a b h1 h2 h3 hA hB
  obtain ⟨p2, lp2, dp2, vp2, K3, e3⟩ := lmul_ev a c h1 (by omega) (by omega) hA hC
  obtain ⟨t, cy, lt, dt, c0, c1, ht, K4, e4⟩ := ladd_ev p1 p2 (by omega) (by omega) (by omega) dp1 dp2
  have bt := (V_bound (by decide) dt).1
  have bp := (V_bound (by decide) dp).2
  have hlen : p.length = p1.length := by omega
  rw [hlen] at bp
  have hsum : V 4294967296 p1 + V 4294967296 p2 = V 4294967296 p := by rw [vp, hs, Int.mul_add, vp1, vp2]
  obtain ⟨hz, ho⟩ := no_carry ht bt hsum bp c0 c1
  subst hz
  obtain ⟨K5, e5⟩ := lcompare_ev p t (by omega) (by omega) (by omega) (by omega) dp dt
  rw [cmpI_zero.2 ho.symm] at e5
  have hcode : ((0 : Int) == 1) = false := rfl
  rw [hcode] at e4
  have hl : ((p.length : Int) == (t.length : Int)) = true := by rw [beq_iff_eq]; omega
  refine ⟨K1 + K2 + K3 + K4 + K5 + 1, fun n hn => ?_⟩
  obtain ⟨q, rfl⟩ : ∃ q, n = q + 1 := ⟨n - 1, by clear ht bp; omega⟩
  have e1' : limbs_Mul.f q a s = _ := e1 q (by clear ht bp; omega)
  have e2' : limbs_Mul.f q a b = _ := e2 q (by clear ht bp; omega)
  have e3' : limbs_Mul.f q a c = _ := e3 q (by clear ht bp; omega)
  have e4' : limbs_Add.f q p1 p2 = _ := e4 q (by clear ht bp; omega)
  have e5' : limbs_Compare.f q p t = _ := e5 q (by clear ht bp; omega)
  show sallyportlaw04_LimbsSpreads.j1 (q + 1) a b c s 0 false = some true
  simp only [sallyportlaw04_LimbsSpreads.j1]
  rw [if_neg (by simp), e1', Option.bind_some, e2', Option.bind_some, e3', Option.bind_some, e4', Option.bind_some, if_pos rfl, if_pos rfl, if_pos rfl, if_pos rfl, if_neg (by simp), e5', Option.bind_some, if_pos rfl, hl]

theorem spreads_over (a b c s : List Int) : Ev (fun q => sallyportlaw04_LimbsSpreads.j1 q a b c s 0 true) true := by
  refine Ev.step (f := fun _ => some true) (fun q => ?_) (Ev.now _)
  simp [sallyportlaw04_LimbsSpreads.j1]

theorem spreads_mid (a b c : List Int) (h1 : 1 ≤ a.length) (h2 : 1 ≤ b.length) (h3 : a.length + b.length ≤ 256) (h4 : c.length = b.length) (hA : Dig 4294967296 a) (hB : Dig 4294967296 b) (hC : Dig 4294967296 c) :
    Ev (fun q => sallyportlaw04_LimbsSpreads.j0 q a b c false) true := by
  obtain ⟨s, cy, ls, ds, c0, c1, hs, K1, e1⟩ := ladd_ev b c h2 (by omega) h4 hB hC
  have key : Ev (fun q => sallyportlaw04_LimbsSpreads.j1 q a b c s 0 (cy == 1)) true := by
    rcases (show cy = 0 ∨ cy = 1 by clear hs; omega) with rfl | rfl
    · rw [Int.zero_mul, Int.add_zero] at hs
      exact spreads_tail a b c s h1 h2 h3 h4 hA hB hC ls ds hs
    · exact spreads_over a b c s
  obtain ⟨K2, e2⟩ := key
  refine ⟨K1 + K2 + 1, fun n hn => ?_⟩
  obtain ⟨q, rfl⟩ : ∃ q, n = q + 1 := ⟨n - 1, by clear hs; omega⟩
  have e1' : limbs_Add.f q b c = _ := e1 q (by clear hs; omega)
  have e2' : sallyportlaw04_LimbsSpreads.j1 q a b c s 0 (cy == 1) = _ := e2 q (by clear hs; omega)
  show sallyportlaw04_LimbsSpreads.j0 (q + 1) a b c false = some true
  simp only [sallyportlaw04_LimbsSpreads.j0]
  rw [if_neg (by simp), e1', Option.bind_some, if_pos rfl, e2']

theorem LimbsSpreads : sallyportlaw04_LimbsSpreads.Pure := by
  intro a b c _ _ ha _ _ hb _ _ hc
  have hA := words_dig ha
  have hB := words_dig hb
  have hC := words_dig hc
  obtain ⟨K1, e1⟩ := anchor_ev
  have e3' : ∀ k, sallyportlaw04_LimbsSpreads.j0 (k + 1) a b c true = some true := fun k => by simp [sallyportlaw04_LimbsSpreads.j0]
  by_cases ra : 1 ≤ a.length ∧ a.length ≤ 256
  · by_cases rb : 1 ≤ b.length ∧ b.length ≤ 256
    · by_cases rc : 1 ≤ c.length ∧ c.length ≤ 256
      · by_cases hl : b.length = c.length
        · by_cases hs : a.length + b.length ≤ 256
          · obtain ⟨K2, e2⟩ := spreads_mid a b c ra.1 rb.1 hs hl.symm hA hB hC
            have e1' : sallyportlaw04_anchor.f (K1 + K2 + 1) = _ := e1 _ (by omega)
            have e2' : sallyportlaw04_LimbsSpreads.j0 (K1 + K2 + 1) a b c false = _ := e2 _ (by omega)
            refine ⟨K1 + K2 + 1, ?_⟩
            unfold sallyportlaw04_LimbsSpreads.f
            rw [e1', Option.bind_some, if_pos rfl, law_right, law_right, law_right, decide_eq_true ra, decide_eq_true rb, decide_eq_true rc, Option.bind_some, if_pos rfl, Option.bind_some, if_pos rfl, Option.bind_some, if_pos rfl, if_pos (by omega), w64 (by omega) (by omega), decide_eq_false (by omega), e2']
          · have e1' : sallyportlaw04_anchor.f (K1 + 1) = _ := e1 _ (by omega)
            refine ⟨K1 + 1, ?_⟩
            unfold sallyportlaw04_LimbsSpreads.f
            rw [e1', Option.bind_some, if_pos rfl, law_right, law_right, law_right, decide_eq_true ra, decide_eq_true rb, decide_eq_true rc, Option.bind_some, if_pos rfl, Option.bind_some, if_pos rfl, Option.bind_some, if_pos rfl, if_pos (by omega), w64 (by omega) (by omega), decide_eq_true (by omega), e3']
        · have e1' : sallyportlaw04_anchor.f (K1 + 1) = _ := e1 _ (by omega)
          refine ⟨K1 + 1, ?_⟩
          unfold sallyportlaw04_LimbsSpreads.f
          rw [e1', Option.bind_some, if_pos rfl, law_right, law_right, law_right, decide_eq_true ra, decide_eq_true rb, decide_eq_true rc, Option.bind_some, if_pos rfl, Option.bind_some, if_pos rfl, Option.bind_some, if_pos rfl, if_neg (by omega), e3']
      · have e1' : sallyportlaw04_anchor.f (K1 + 1) = _ := e1 _ (by omega)
        refine ⟨K1 + 1, ?_⟩
        unfold sallyportlaw04_LimbsSpreads.f
        rw [e1', Option.bind_some, if_pos rfl, law_right, law_right, law_right, decide_eq_true ra, decide_eq_true rb, decide_eq_false rc, Option.bind_some, if_pos rfl, Option.bind_some, if_pos rfl, Option.bind_some, if_neg (by simp), e3']
    · have e1' : sallyportlaw04_anchor.f (K1 + 1) = _ := e1 _ (by omega)
      refine ⟨K1 + 1, ?_⟩
      unfold sallyportlaw04_LimbsSpreads.f
      rw [e1', Option.bind_some, if_pos rfl, law_right, law_right, decide_eq_true ra, decide_eq_false rb, Option.bind_some, if_pos rfl, Option.bind_some, if_neg (by simp), e3']
  · have e1' : sallyportlaw04_anchor.f (K1 + 1) = _ := e1 _ (by omega)
    refine ⟨K1 + 1, ?_⟩
    unfold sallyportlaw04_LimbsSpreads.f
    rw [e1', Option.bind_some, if_pos rfl, law_right, decide_eq_false ra, Option.bind_some, if_neg (by simp), e3']
end Go.Proofs.Ytcljdpaniinhmaa.Pure
