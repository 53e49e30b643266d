/- What limbs.Mul answers: the product. Condition: words; together at most 256 of them. -/
import Derived.Test.YtcljdpaniinhmaaV2
import Derived.Test.YtcljdpaniinhmaaLx1
namespace Go.Proofs.Ytcljdpaniinhmaa.Pure
open Go.RowKit Go.Proofs.Ytcljdpaniinhmaa.L Go.Proofs.YtcljdpaniinhmaaW.PrintWords Go.Proofs.YtcljdpaniinhmaaW.PrintLast
set_option linter.unusedVariables false

theorem u64w {n : Int} (h0 : 0 ≤ n) (h1 : n < 18446744073709551616) : IntKind.u64.wrap n = n := by
  have h : IntKind.u64.wrap n = n % 18446744073709551616 := by simp [IntKind.wrap, IntKind.bits, IntKind.signed]
  rw [h]
  omega

/-- What a product with what is carried comes to. -/
theorem mul_word (x y o c : Int) (hx0 : 0 ≤ x) (hx1 : x < 4294967296) (hy0 : 0 ≤ y) (hy1 : y < 4294967296) (ho0 : 0 ≤ o) (ho1 : o < 4294967296) (hc0 : 0 ≤ c) (hc1 : c < 4294967296) :
    IntKind.u64.wrap ((IntKind.u64.wrap ((IntKind.u64.wrap ((IntKind.u64.wrap x) * (IntKind.u64.wrap y))) + (IntKind.u64.wrap o))) + c) = x * y + o + c ∧ 0 ≤ x * y + o + c ∧ x * y + o + c < 18446744073709551616 := by
  have h0 : 0 ≤ x * y := Int.mul_nonneg hx0 hy0
  have h1 : x * y ≤ 4294967295 * 4294967295 := Int.mul_le_mul (by omega) (by omega) hy0 (by omega)
  rw [u64w hx0 (by omega), u64w hy0 (by omega), u64w h0 (by omega), u64w ho0 (by omega), u64w (n := x * y + o) (by omega) (by omega), u64w (n := x * y + o + c) (by omega) (by omega)]
  omega

theorem ring_mul (Vo r o q t p c S A T bk X Xi Y B ai : Int) (h1 : t = p + o + c) (h2 : t = r + q * B) (h3 : Vo + c * X = S + A * T) (h4 : X = Xi * Y) (h5 : A = ai * Xi) (h6 : p = ai * bk) :
    (Vo + (r - o) * X) + q * (X * B) = S + A * (T + bk * Y) := by
  subst h4 h5 h6
  have e : r = ai * bk + o + c - q * B := by omega
  subst e
  grind

theorem mul_inner (B : Int) (hBe : B = 4294967296) (a b : List Int) (hla : a.length ≤ 256) (hlb : b.length ≤ 256) (hA : Dig B a) (hB : Dig B b) (i : Nat) (hi : i < a.length) :
    ∀ (c k : Nat) (out : List Int) (cy : Int), c + k = b.length → out.length = a.length + b.length → Dig B out → 0 ≤ cy → cy < B → (∀ j, i + b.length ≤ j → dg out j = 0) →
      Aside0 (V B out + cy * B ^ (i + k) = sumN B (dg a) i * V B b + (dg a i * B ^ i) * sumN B (dg b) k) →
      ∃ out', out'.length = a.length + b.length ∧ Dig B out' ∧ (∀ j, i + 1 + b.length ≤ j → dg out' j = 0) ∧ V B out' = sumN B (dg a) (i + 1) * V B b ∧
        ∀ R, Ev (fun q => limbs_Mul.l0 q b out' a (a.length : Int) ((i + 1 : Nat) : Int)) R → Ev (fun q => limbs_Mul.l1 q b out (i : Int) (dg a i) cy a (a.length : Int) (i : Int) b (b.length : Int) (k : Int)) R
  | 0, k, out, cy, hc, hlen, hd, h0, h1, hz, hV => by
    obtain rfl : k = b.length := by omega
    have e1 : wrap64 ((i : Int) + (b.length : Int)) = ((i + b.length : Nat) : Int) := by rw [w64 (by omega) (by omega)]; omega
    have e2 : wrap64 ((i : Int) + 1) = ((i + 1 : Nat) : Int) := by rw [w64 (by omega) (by omega)]; omega
    have e3 : cy % 4294967296 = cy := by omega
    have hlt : i + b.length < out.length := by omega
    have g1 : ¬ ((b.length : Int) < (b.length : Int)) := by omega
    have g2 : (0 : Int) ≤ ((i + b.length : Nat) : Int) := by omega
    have g3 : ((i + b.length : Nat) : Int) < (out.length : Int) := by omega
    refine ⟨out.set (i + b.length) cy, by rw [List.length_set]; exact hlen, hd.set h0 h1, fun j hj => ?_, ?_, fun R next => Ev.step (fun q => ?_) next⟩
    · rw [dg_set hlt, if_neg (by omega)]
      exact hz j (by omega)
    · rw [V_set _ _ hlt, hz _ (Nat.le_refl _), Int.sub_zero, hV.out]
      show _ + _ * V B b = (sumN B (dg a) i + dg a i * B ^ i) * V B b
      rw [Int.add_mul]
    · simp only [limbs_Mul.l1]
      rw [if_neg g1, e1, if_pos g2, if_pos g3, e2, e3, Int.toNat_natCast]
  | c + 1, k, out, cy, hc, hlen, hd, h0, h1, hz, hV => by
    have hk : k < b.length := by omega
    have hlt : i + k < out.length := by omega
    have g1 : ((k : Int) < (b.length : Int)) := by omega
    have g2 : (0 : Int) ≤ (k : Int) := by omega
    have g3 : (0 : Int) ≤ ((i + k : Nat) : Int) := by omega
    have g4 : ((i + k : Nat) : Int) < (out.length : Int) := by omega
    have e1 : wrap64 ((i : Int) + (k : Int)) = ((i + k : Nat) : Int) := by rw [w64 (by omega) (by omega)]; omega
    have e2 : wrap64 ((k : Int) + 1) = ((k + 1 : Nat) : Int) := by rw [w64 (by omega) (by omega)]; omega
    have hBp : 0 < B := by rw [hBe]; decide
    have ha := hA.dg hBp i
    have hb := hB.dg hBp k
    have ho := hd.dg hBp (i + k)
    have h1' := h1
    rw [hBe] at ha hb ho h1'
    obtain ⟨hm, ht0, ht1⟩ := mul_word (dg a i) (dg b k) (dg out (i + k)) cy ha.1 ha.2 hb.1 hb.2 ho.1 ho.2 h0 h1'
    obtain ⟨t, ht⟩ : ∃ t, dg a i * dg b k + dg out (i + k) + cy = t := ⟨_, rfl⟩
    rw [ht] at hm ht0 ht1
    have hdm : t = t % 4294967296 + t / 4294967296 * B := by rw [hBe]; omega
    have hr1 : t % 4294967296 < B := by rw [hBe]; omega
    have hr0 : 0 ≤ t % 4294967296 := by omega
    have hq0 : 0 ≤ t / 4294967296 := by omega
    have hq1 : t / 4294967296 < B := by rw [hBe]; omega
    obtain ⟨out', hl', hd', hz', hV', hn'⟩ := mul_inner B hBe a b hla hlb hA hB i hi c (k + 1) (out.set (i + k) (t % 4294967296)) (t / 4294967296) (by omega) (by rw [List.length_set]; exact hlen) (hd.set hr0 hr1) hq0 hq1
      (fun j hj => by rw [dg_set hlt, if_neg (by omega)]; exact hz j hj) ⟨by
        rw [V_set _ _ hlt, show i + (k + 1) = (i + k) + 1 by omega, Int.pow_succ]
        exact ring_mul (V B out) (t % 4294967296) (dg out (i + k)) (t / 4294967296) t (dg a i * dg b k) cy _ _ _ (dg b k) (B ^ (i + k)) (B ^ i) (B ^ k) B (dg a i) ht.symm hdm hV.out (Int.pow_add _ _ _) rfl rfl⟩
    refine ⟨out', hl', hd', hz', hV', fun R next => Ev.step (fun q => ?_) (hn' R next)⟩
    simp only [limbs_Mul.l1]
    rw [if_pos g1, if_pos g2, if_pos g1, e1, if_pos g3, if_pos g4, rd_dg, rd_dg, hm, e2, Int.toNat_natCast]

theorem mul_loop (a b : List Int) (hla : a.length ≤ 256) (hlb : b.length ≤ 256) (hA : Dig 4294967296 a) (hB : Dig 4294967296 b) :
    ∀ (c i : Nat) (out : List Int), c + i = a.length → out.length = a.length + b.length → Dig 4294967296 out → (∀ j, i + b.length ≤ j → dg out j = 0) → V 4294967296 out = sumN 4294967296 (dg a) i * V 4294967296 b →
      ∃ out', out'.length = a.length + b.length ∧ Dig 4294967296 out' ∧ V 4294967296 out' = V 4294967296 a * V 4294967296 b ∧ Ev (fun q => limbs_Mul.l0 q b out a (a.length : Int) (i : Int)) (out', 0)
  | 0, i, out, hc, hlen, hd, hz, hV => by
    obtain rfl : i = a.length := by omega
    refine ⟨out, hlen, hd, hV, Ev.step (f := fun _ => some (out, 0)) (fun q => ?_) (Ev.now _)⟩
    simp only [limbs_Mul.l0]
    rw [if_neg (by omega)]
  | c + 1, i, out, hc, hlen, hd, hz, hV => by
    have hi : i < a.length := by omega
    obtain ⟨out1, hl1, hd1, hz1, hV1, hn1⟩ := mul_inner 4294967296 rfl a b hla hlb hA hB i hi b.length 0 out 0 (by omega) hlen hd (by omega) (by omega) hz ⟨by rw [hV]; simp [sumN]⟩
    obtain ⟨out', hl', hd', hV', hn'⟩ := mul_loop a b hla hlb hA hB c (i + 1) out1 (by omega) hl1 hd1 hz1 hV1
    refine ⟨out', hl', hd', hV', Ev.step (fun q => ?_) (hn1 _ hn')⟩
    simp only [limbs_Mul.l0]
    rw [if_pos (by omega), if_pos (by omega), if_pos (by omega), rd_dg]
    rfl

/-- The product of numbers. -/
theorem lmul_ev (a b : List Int) (h1 : 1 ≤ a.length) (h2 : 1 ≤ b.length) (h3 : a.length + b.length ≤ 256) (hA : Dig 4294967296 a) (hB : Dig 4294967296 b) :
    ∃ out, out.length = a.length + b.length ∧ Dig 4294967296 out ∧ V 4294967296 out = V 4294967296 a * V 4294967296 b ∧ Ev (fun q => limbs_Mul.f q a b) (out, 0) := by
  obtain ⟨out, hl, hd, hV, hn⟩ := mul_loop a b (by omega) (by omega) hA hB a.length 0 (List.replicate (a.length + b.length) 0) (by omega) (by simp) (Dig.zeros (by decide) _) (fun j _ => dg_zeros _ _) (by rw [V_zeros]; simp [sumN])
  refine ⟨out, hl, hd, hV, Ev.congr (f := fun q => limbs_Mul.j0 q a b false) (fun q => ?_) (Ev.step (fun q => ?_) hn)⟩
  · unfold limbs_Mul.f limbs_right.f
    rw [decide_eq_true ⟨h1, by omega, h2, by omega⟩]
    simp only [Option.bind_some, if_true]
    rw [w64 (by omega) (by omega), decide_eq_false (by omega)]
  · simp only [limbs_Mul.j0]
    rw [if_neg (by simp), w64 (by omega) (by omega), if_pos (by omega), if_pos (by omega)]
    rfl

/-- Too wide, or no numbers. -/
theorem lmul_no (a b : List Int) (hla : a.length ≤ 1000) (hlb : b.length ≤ 1000) (h : ¬ (1 ≤ a.length ∧ a.length ≤ 256 ∧ 1 ≤ b.length ∧ b.length ≤ 256) ∨ 256 < a.length + b.length) : Ev (fun q => limbs_Mul.f q a b) ([], 24) := by
  have hj : Ev (fun q => limbs_Mul.j0 q a b true) ([], 24) := Ev.step (f := fun _ => some ([], 24)) (fun q => by simp [limbs_Mul.j0]) (Ev.now _)
  refine Ev.congr (fun q => ?_) hj
  unfold limbs_Mul.f limbs_right.f
  by_cases hr : 1 ≤ a.length ∧ a.length ≤ 256 ∧ 1 ≤ b.length ∧ b.length ≤ 256
  · rw [decide_eq_true hr]
    simp only [Option.bind_some, if_true]
    rw [w64 (by omega) (by omega), decide_eq_true (by omega)]
  · rw [decide_eq_false hr]
    simp
end Go.Proofs.Ytcljdpaniinhmaa.Pure
