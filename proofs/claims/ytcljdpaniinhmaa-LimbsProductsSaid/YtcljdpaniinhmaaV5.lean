/- What the reference's Mul answers: the product's digits. Condition: digits. -/
import Derived.Test.YtcljdpaniinhmaaV2
import Derived.Test.YtcljdpaniinhmaaLx3
namespace Go.Proofs.Ytcljdpaniinhmaa.Pure
open Go.RowKit Go.Proofs.Ytcljdpaniinhmaa.L Go.Proofs.YtcljdpaniinhmaaW.PrintWords Go.Proofs.YtcljdpaniinhmaaW.PrintLast
set_option linter.unusedVariables false

theorem ring_mul5 (Vo r o q t p c S A T bk X Xi Y B ai : Int) (h1 : t = p + o + c) (h2 : t = r + q * B) (h3 : Vo + c * X = S + A * T) (h4 : X = Xi * Y) (h5 : A = ai * Xi) (h6 : p = ai * bk) :
    (Vo + (r - o) * X) + q * (X * B) = S + A * (T + bk * Y) := by
  subst h4 h5 h6
  have e : r = ai * bk + o + c - q * B := by omega
  subst e
  grind

theorem mul_lt_mul0 {x y X Y : Int} (hx0 : 0 ≤ x) (hx : x < X) (hy0 : 0 ≤ y) (hy : y < Y) : x * y < X * Y := by
  have h1 : x * y ≤ (X - 1) * (Y - 1) := Int.mul_le_mul (by omega) (by omega) hy0 (by omega)
  have h2 : (X - 1) * (Y - 1) = X * Y - X - Y + 1 := by grind
  omega

/-- What a byte's product with what is carried comes to. -/
theorem mul_byte (x y o c : Int) (hx0 : 0 ≤ x) (hx1 : x < 256) (hy0 : 0 ≤ y) (hy1 : y < 256) (ho0 : 0 ≤ o) (ho1 : o < 256) (hc0 : 0 ≤ c) (hc1 : c < 256) :
    wrap64 ((wrap64 (o + c)) + (wrap64 (x * y))) = x * y + o + c ∧ 0 ≤ x * y + o + c ∧ x * y + o + c < 65536 := by
  have h0 : 0 ≤ x * y := Int.mul_nonneg hx0 hy0
  have h1 : x * y ≤ 255 * 255 := Int.mul_le_mul (by omega) (by omega) hy0 (by omega)
  rw [w64 (n := x * y) (by omega) (by omega), w64 (n := o + c) (by omega) (by omega), w64 (by omega) (by omega)]
  omega

/-- One round of the inner loop, where there is a digit. -/
theorem rmul_step (a b out : List Int) (i k : Nat) (cy t : Int) (R : List Int) (hla : a.length ≤ 2000) (hlb : b.length ≤ 2000) (hi : i < a.length) (hk : k < b.length) (hlt : i + k < out.length)
    (hm : wrap64 ((wrap64 (dg out (i + k) + cy)) + (wrap64 (dg a i * dg b k))) = t) (ht0 : 0 ≤ t) (ht1 : t < 65536)
    (next : Ev (fun q => sallyportref04_Mul.l1 q a b (out.set (i + k) (t % 256)) (i : Int) (t / 256) ((k + 1 : Nat) : Int)) R) :
    Ev (fun q => sallyportref04_Mul.l1 q a b out (i : Int) cy (k : Int)) R := by
  have e1 : wrap64 ((i : Int) + (k : Int)) = ((i + k : Nat) : Int) := by clear hm next; rw [w64 (by omega) (by omega)]; omega
  have e2 : wrap64 ((k : Int) + 1) = ((k + 1 : Nat) : Int) := by clear hm next; rw [w64 (by omega) (by omega)]; omega
  have g1 : (k : Int) < (b.length : Int) := by clear hm next; omega
  have g2 : (0 : Int) ≤ (k : Int) := by clear hm next; omega
  have g3 : (0 : Int) ≤ ((i + k : Nat) : Int) := by clear hm next; omega
  have g4 : ((i + k : Nat) : Int) < (out.length : Int) := by clear hm next; omega
  have g5 : (0 : Int) ≤ (i : Int) := by clear hm next; omega
  have g6 : (i : Int) < (a.length : Int) := by clear hm next; omega
  have em : Int.tmod t 256 = t % 256 := Int.tmod_eq_emod_of_nonneg ht0
  have ed : wrap64 (Int.tdiv t 256) = t / 256 := by clear hm next; rw [Int.tdiv_eq_ediv_of_nonneg ht0]; exact w64 (by omega) (by omega)
  refine Ev.step (f := fun q => sallyportref04_Mul.j2 q a b out (i : Int) cy (k : Int) true) (fun q => ?_) (Ev.step (fun q => ?_) next)
  · simp only [sallyportref04_Mul.l1]
    rw [if_pos g1]
  · simp only [sallyportref04_Mul.j2]
    rw [if_pos trivial, e1, if_pos g3, if_pos g4, if_pos g1, if_pos g5, if_pos g6, if_pos g2, rd_dg, rd_dg, rd_dg, hm, em, ed, e2, Int.toNat_natCast]

/-- One round where only the carry is left. -/
theorem rmul_carry (a b out : List Int) (i k : Nat) (cy t : Int) (R : List Int) (hla : a.length ≤ 2000) (hlb : b.length ≤ 2000) (hi : i < a.length) (hk : k = b.length) (hlt : i + k < out.length) (hcy : 0 < cy)
    (hm : wrap64 (dg out (i + k) + cy) = t) (ht0 : 0 ≤ t) (ht1 : t < 65536)
    (next : Ev (fun q => sallyportref04_Mul.l1 q a b (out.set (i + k) (t % 256)) (i : Int) (t / 256) ((k + 1 : Nat) : Int)) R) :
    Ev (fun q => sallyportref04_Mul.l1 q a b out (i : Int) cy (k : Int)) R := by
  have e1 : wrap64 ((i : Int) + (k : Int)) = ((i + k : Nat) : Int) := by clear hm next; rw [w64 (by omega) (by omega)]; omega
  have e2 : wrap64 ((k : Int) + 1) = ((k + 1 : Nat) : Int) := by clear hm next; rw [w64 (by omega) (by omega)]; omega
  have g1 : ¬ (k : Int) < (b.length : Int) := by clear hm next; omega
  have g3 : (0 : Int) ≤ ((i + k : Nat) : Int) := by clear hm next; omega
  have g4 : ((i + k : Nat) : Int) < (out.length : Int) := by clear hm next; omega
  have em : Int.tmod t 256 = t % 256 := Int.tmod_eq_emod_of_nonneg ht0
  have ed : wrap64 (Int.tdiv t 256) = t / 256 := by clear hm next; rw [Int.tdiv_eq_ediv_of_nonneg ht0]; exact w64 (by omega) (by omega)
  refine Ev.step (f := fun q => sallyportref04_Mul.j2 q a b out (i : Int) cy (k : Int) true) (fun q => ?_) (Ev.step (fun q => ?_) next)
  · simp only [sallyportref04_Mul.l1]
    rw [if_neg g1, decide_eq_true hcy]
  · simp only [sallyportref04_Mul.j2]
    rw [if_pos trivial, e1, if_pos g3, if_pos g4, if_neg g1, rd_dg, hm, em, ed, e2, Int.toNat_natCast]

/-- Nothing is left. -/
theorem rmul_out (a b out : List Int) (i k : Nat) (R : List Int) (hla : a.length ≤ 2000) (hi : i < a.length) (hk : b.length ≤ k)
    (next : Ev (fun q => sallyportref04_Mul.l0 q a b out ((i + 1 : Nat) : Int)) R) :
    Ev (fun q => sallyportref04_Mul.l1 q a b out (i : Int) 0 (k : Int)) R := by
  have e3 : wrap64 ((i : Int) + 1) = ((i + 1 : Nat) : Int) := by clear next; rw [w64 (by omega) (by omega)]; omega
  have g1 : ¬ (k : Int) < (b.length : Int) := by clear next; omega
  refine Ev.step (f := fun q => sallyportref04_Mul.j2 q a b out (i : Int) 0 (k : Int) false) (fun q => ?_) (Ev.step (fun q => ?_) next)
  · simp only [sallyportref04_Mul.l1]
    rw [if_neg g1]
    rfl
  · simp only [sallyportref04_Mul.j2]
    rw [if_neg (by simp), e3]

theorem rmul_inner (B : Int) (hBe : B = 256) (a b : List Int) (hla : a.length ≤ 2000) (hlb : b.length ≤ 2000) (hA : Dig B a) (hB : Dig B b) (i : Nat) (hi : i < a.length) :
    ∀ (n k : Nat) (out : List Int) (cy : Int), n + k = b.length + 1 → out.length = a.length + b.length + 1 → Dig B out → 0 ≤ cy → cy < B →
      Aside0 (V B out + cy * B ^ (i + k) = sumN B (dg a) i * V B b + (dg a i * B ^ i) * sumN B (dg b) k) →
      ∃ out', out'.length = a.length + b.length + 1 ∧ Dig B out' ∧ V B out' = sumN B (dg a) (i + 1) * V B b ∧
        ∀ R, Ev (fun q => sallyportref04_Mul.l0 q a b out' ((i + 1 : Nat) : Int)) R → Ev (fun q => sallyportref04_Mul.l1 q a b out (i : Int) cy (k : Int)) R
  | 0, k, out, cy, hc, hlen, hd, h0, h1, hV => by
    obtain rfl : k = b.length + 1 := by omega
    have hBp : 0 < B := by rw [hBe]; decide
    have hsb : sumN B (dg b) (b.length + 1) = V B b := (V_sum (by omega)).symm
    have htot : V B out + cy * B ^ (i + (b.length + 1)) = sumN B (dg a) (i + 1) * V B b := by
      rw [hV.out, hsb]
      show _ = (sumN B (dg a) i + dg a i * B ^ i) * V B b
      rw [Int.add_mul]
    have hb1 := sumN_bound hBp (fun j => hA.dg hBp j) (i + 1)
    have hb2 := V_bound hBp hB
    have hlt := mul_lt_mul0 hb1.1 hb1.2 hb2.1 hb2.2
    rw [← Int.pow_add, show i + 1 + b.length = i + (b.length + 1) by omega, ← htot] at hlt
    have ho := (V_bound hBp hd).1
    have hX := pow_pos' hBp (i + (b.length + 1))
    have hcy : cy = 0 := by
      by_cases hz : cy = 0
      · exact hz
      · have h2 : 1 * B ^ (i + (b.length + 1)) ≤ cy * B ^ (i + (b.length + 1)) := Int.mul_le_mul_of_nonneg_right (by omega) (by omega)
        rw [Int.one_mul] at h2
        omega
    subst hcy
    exact ⟨out, hlen, hd, by rw [← htot]; simp, fun R next => rmul_out a b out i _ R hla hi (by omega) next⟩
  | n + 1, k, out, cy, hc, hlen, hd, h0, h1, hV => by
    have hk : k ≤ b.length := by clear hV; omega
    have hlt : i + k < out.length := by clear hV; omega
    have hc' : n + (k + 1) = b.length + 1 := by clear hV; omega
    have hBp : 0 < B := by rw [hBe]; decide
    have ha := hA.dg hBp i
    have hb := hB.dg hBp k
    have ho := hd.dg hBp (i + k)
    have h1' := h1
    rw [hBe] at ha hb ho h1'
    obtain ⟨hm, ht0, ht1⟩ := mul_byte (dg a i) (dg b k) (dg out (i + k)) cy ha.1 ha.2 hb.1 hb.2 ho.1 ho.2 h0 h1'
    obtain ⟨t, ht⟩ : ∃ t, dg a i * dg b k + dg out (i + k) + cy = t := ⟨_, rfl⟩
    rw [ht] at hm ht0 ht1
    have hdm : t = t % 256 + t / 256 * B := by rw [hBe]; clear hm ht hV; omega
    have hr1 : t % 256 < B := by rw [hBe]; clear hm ht hV; omega
    have hr0 : 0 ≤ t % 256 := by clear hm ht hV; omega
    have hq0 : 0 ≤ t / 256 := by clear hm ht hV; omega
    have hq1 : t / 256 < B := by rw [hBe]; clear hm ht hV; omega
    obtain ⟨out', hl', hd', hV', hn'⟩ := rmul_inner B hBe a b hla hlb hA hB i hi n (k + 1) (out.set (i + k) (t % 256)) (t / 256) hc' (by rw [List.length_set]; exact hlen) (hd.set hr0 hr1) hq0 hq1 ⟨by
        rw [V_set _ _ hlt, show i + (k + 1) = (i + k) + 1 from rfl, Int.pow_succ]
        exact ring_mul5 (V B out) (t % 256) (dg out (i + k)) (t / 256) t (dg a i * dg b k) cy _ _ _ (dg b k) (B ^ (i + k)) (B ^ i) (B ^ k) B (dg a i) ht.symm hdm hV.out (Int.pow_add _ _ _) rfl rfl⟩
    by_cases hkb : k < b.length
    · exact ⟨out', hl', hd', hV', fun R next => rmul_step a b out i k cy t R hla hlb hi hkb hlt hm ht0 ht1 (hn' R next)⟩
    · have hkb' : k = b.length := Nat.le_antisymm hk (Nat.le_of_not_lt hkb)
      have hz : dg b k = 0 := dg_above (Nat.le_of_eq hkb'.symm)
      by_cases hcy : 0 < cy
      · refine ⟨out', hl', hd', hV', fun R next => rmul_carry a b out i k cy t R hla hlb hi hkb' hlt hcy ?_ ht0 ht1 (hn' R next)⟩
        rw [← ht, hz, Int.mul_zero, Int.zero_add]
        exact w64 (by clear hm ht hV; omega) (by clear hm ht hV; omega)
      · obtain rfl : cy = 0 := Int.le_antisymm (Int.not_lt.1 hcy) h0
        refine ⟨out, hlen, hd, ?_, fun R next => rmul_out a b out i k R hla hi (Nat.le_of_eq hkb'.symm) next⟩
        have e := hV.out
        rw [hkb', Int.zero_mul, Int.add_zero] at e
        rw [e]
        show _ + _ * V B b = (sumN B (dg a) i + dg a i * B ^ i) * V B b
        rw [Int.add_mul]

theorem rmul_loop (a b : List Int) (hla : a.length ≤ 2000) (hlb : b.length ≤ 2000) (hA : Dig 256 a) (hB : Dig 256 b) :
    ∀ (c i : Nat) (out : List Int), c + i = a.length → out.length = a.length + b.length + 1 → Dig 256 out → V 256 out = sumN 256 (dg a) i * V 256 b →
      ∃ out', Norm out' ∧ Dig 256 out' ∧ out'.length ≤ a.length + b.length + 1 ∧ V 256 out' = V 256 a * V 256 b ∧ Ev (fun q => sallyportref04_Mul.l0 q a b out (i : Int)) out'
  | 0, i, out, hc, hlen, hd, hV => by
    obtain rfl : i = a.length := by omega
    obtain ⟨r, hr, nr, dr, vr, lr⟩ := trim_ev out (by omega) hd
    refine ⟨r, nr, dr, by omega, by rw [vr, hV]; rfl, Ev.step (f := fun q => (sallyportref04_Trim.f q out).bind fun t => some t) (fun q => ?_) (Ev.bind hr (Ev.now _))⟩
    simp only [sallyportref04_Mul.l0]
    rw [if_neg (by omega)]
  | c + 1, i, out, hc, hlen, hd, hV => by
    have hi : i < a.length := by omega
    have hi' : (i : Int) < (a.length : Int) := by omega
    have hc' : c + (i + 1) = a.length := by omega
    obtain ⟨out1, hl1, hd1, hV1, hn1⟩ := rmul_inner 256 rfl a b hla hlb hA hB i hi (b.length + 1) 0 out 0 rfl hlen hd (by decide) (by decide) ⟨by rw [hV]; simp [sumN]⟩
    obtain ⟨out', nr', hd', hl', hV', hn'⟩ := rmul_loop a b hla hlb hA hB c (i + 1) out1 hc' hl1 hd1 hV1
    refine ⟨out', nr', hd', hl', hV', Ev.step (fun q => ?_) (hn1 _ hn')⟩
    simp only [sallyportref04_Mul.l0]
    rw [if_pos hi']
    rfl

/-- The product's digits. -/
theorem rmul_ev (a b : List Int) (hla : a.length ≤ 2000) (hlb : b.length ≤ 2000) (hA : Dig 256 a) (hB : Dig 256 b) :
    ∃ r, Norm r ∧ Dig 256 r ∧ r.length ≤ a.length + b.length + 1 ∧ V 256 r = V 256 a * V 256 b ∧ Ev (fun q => sallyportref04_Mul.f q a b) r := by
  obtain ⟨r, nr, dr, lr, vr, hr⟩ := rmul_loop a b hla hlb hA hB a.length 0 (List.replicate (a.length + b.length + 1) 0) (by omega) (by simp) (Dig.zeros (by decide) _) (by rw [V_zeros]; simp [sumN])
  refine ⟨r, nr, dr, lr, vr, Ev.congr (fun q => ?_) hr⟩
  have e : wrap64 (wrap64 ((a.length : Int) + (b.length : Int)) + 1) = ((a.length + b.length + 1 : Nat) : Int) := by
    rw [w64 (n := (a.length : Int) + (b.length : Int)) (by omega) (by omega), w64 (by omega) (by omega)]
    omega
  unfold sallyportref04_Mul.f
  rw [e, if_pos (by omega), Int.toNat_natCast, if_pos (by omega)]
  rfl
end Go.Proofs.Ytcljdpaniinhmaa.Pure
