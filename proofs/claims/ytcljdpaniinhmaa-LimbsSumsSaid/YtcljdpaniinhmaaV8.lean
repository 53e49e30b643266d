/- What the reference's Add, Sub and Power answer. Condition: digits. -/
import Derived.Test.YtcljdpaniinhmaaV2
import Derived.Test.YtcljdpaniinhmaaLx4
import Derived.Test.YtcljdpaniinhmaaH5
namespace Go.Proofs.Ytcljdpaniinhmaa.Pure
open Go.RowKit Go.Proofs.Ytcljdpaniinhmaa.L Go.Proofs.YtcljdpaniinhmaaW.PrintWords Go.Proofs.YtcljdpaniinhmaaW.PrintLast
set_option linter.unusedVariables false

theorem ring_add8 (Vo r q t x y c S T X B : Int) (h1 : t = x + y + c) (h2 : t = r + q * B) (h3 : Vo + c * X = S + T) :
    (Vo + r * X) + q * (X * B) = (S + x * X) + (T + y * X) := by
  have e : r = x + y + c - q * B := by omega
  subst e
  grind

/-- One round: the sum of what is left of both, and of the carry. -/
theorem radd_step (a b out : List Int) (i : Nat) (cy : Int) (R : List Int) (hla : a.length ≤ 2000) (hlb : b.length ≤ 2000) (hi : out.length = i) (hmax : i ≤ 5000) (hA : Dig 256 a) (hB : Dig 256 b) (h0 : 0 ≤ cy) (h1 : cy ≤ 1) (hgo : i < a.length ∨ i < b.length ∨ 0 < cy)
    (next : Ev (fun q => sallyportref04_Add.l0 q a b (out ++ [(dg a i + dg b i + cy) % 256]) ((dg a i + dg b i + cy) / 256) ((i + 1 : Nat) : Int)) R) :
    Ev (fun q => sallyportref04_Add.l0 q a b out cy (i : Int)) R := by
  have ha := hA.dg (by decide) i
  have hb := hB.dg (by decide) i
  have e2 : wrap64 ((i : Int) + 1) = ((i + 1 : Nat) : Int) := by clear next; rw [w64 (by omega) (by omega)]; omega
  have g2 : (0 : Int) ≤ (i : Int) := by clear next; omega
  have g4 : out.length < 17592186044416 := by clear next; omega
  obtain ⟨t, ht⟩ : ∃ t, dg a i + dg b i + cy = t := ⟨_, rfl⟩
  have ht0 : 0 ≤ t := by clear next; omega
  have ht1 : t < 512 := by clear next; omega
  have em : Int.tmod t 256 = t % 256 := Int.tmod_eq_emod_of_nonneg ht0
  have ed : wrap64 (Int.tdiv t 256) = t / 256 := by clear next; rw [Int.tdiv_eq_ediv_of_nonneg ht0]; exact w64 (by omega) (by omega)
  rw [ht] at next
  refine Ev.step (f := fun q => sallyportref04_Add.j1 q a b out cy (i : Int) true) (fun q => ?_) (Ev.step (fun q => ?_) next)
  · simp only [sallyportref04_Add.l0]
    by_cases c1 : (i : Int) < (a.length : Int)
    · rw [if_pos c1]
    · rw [if_neg c1]
      by_cases c2 : (i : Int) < (b.length : Int)
      · rw [if_pos c2]
      · rw [if_neg c2, decide_eq_true (by omega)]
  · simp only [sallyportref04_Add.j1]
    rw [if_pos trivial]
    by_cases c1 : (i : Int) < (a.length : Int)
    · rw [if_pos c1, if_pos g2]
      by_cases c2 : (i : Int) < (b.length : Int)
      · have e : wrap64 (wrap64 (cy + dg a i) + dg b i) = t := by rw [w64 (n := cy + dg a i) (by omega) (by omega), w64 (by omega) (by omega)]; omega
        rw [if_pos c2, if_pos g4, rd_dg, rd_dg, e, em, ed, e2]
      · have hz : dg b i = 0 := dg_above (by omega)
        have e : wrap64 (cy + dg a i) = t := by rw [w64 (by omega) (by omega)]; omega
        rw [if_neg c2, if_pos g4, rd_dg, e, em, ed, e2]
    · have hz : dg a i = 0 := dg_above (by omega)
      rw [if_neg c1]
      by_cases c2 : (i : Int) < (b.length : Int)
      · have e : wrap64 (cy + dg b i) = t := by rw [w64 (by omega) (by omega)]; omega
        rw [if_pos c2, if_pos g2, if_pos g4, rd_dg, e, em, ed, e2]
      · have hz2 : dg b i = 0 := dg_above (by omega)
        have e : cy = t := by omega
        rw [if_neg c2, if_pos g4, e, em, ed, e2]

theorem radd_loop (B : Int) (hBe : B = 256) (a b : List Int) (M : Nat) (hla : a.length ≤ M) (hlb : b.length ≤ M) (hM : M ≤ 2000) (hA : Dig B a) (hB : Dig B b) :
    ∀ (c i : Nat) (out : List Int) (cy : Int), c + i = M + 1 → out.length = i → Dig B out → 0 ≤ cy → cy ≤ 1 → (M < i → cy = 0) →
      Aside0 (V B out + cy * B ^ i = sumN B (dg a) i + sumN B (dg b) i) →
      ∃ r, Norm r ∧ Dig B r ∧ r.length ≤ M + 1 ∧ V B r = V B a + V B b ∧ Ev (fun q => sallyportref04_Add.l0 q a b out cy (i : Int)) r := by
  intro c
  induction c with
  | zero =>
    intro i out cy hc hlen hd h0 h1 hz hV
    obtain rfl : cy = 0 := hz (by clear hV; omega)
    obtain ⟨r, hr, nr, dr, vr, lr⟩ := trim_ev out (by clear hV; omega) hd
    have n1 : ¬ (i : Int) < (a.length : Int) := by clear hV; omega
    have n2 : ¬ (i : Int) < (b.length : Int) := by clear hV; omega
    have hE := hV.out
    rw [Int.zero_mul, Int.add_zero, ← V_sum (by clear hV; omega), ← V_sum (by clear hV; omega)] at hE
    refine ⟨r, nr, dr, by clear hV hE; omega, by rw [vr, hE], Ev.step (f := fun q => sallyportref04_Add.j1 q a b out 0 (i : Int) false) (fun q => ?_) (Ev.step (f := fun q => (sallyportref04_Trim.f q out).bind fun t => some t) (fun q => ?_) (Ev.bind hr (Ev.now _)))⟩
    · simp only [sallyportref04_Add.l0]
      rw [if_neg n1, if_neg n2]
      rfl
    · simp only [sallyportref04_Add.j1]
      rw [if_neg (by simp)]
  | succ c ih =>
    intro i out cy hc hlen hd h0 h1 hz hV
    by_cases hgo : i < a.length ∨ i < b.length ∨ 0 < cy
    · have hc' : c + (i + 1) = M + 1 := by clear hV; omega
      have hi5 : i ≤ 5000 := by clear hV; omega
      have hBp : 0 < B := by rw [hBe]; decide
      have ha := hA.dg hBp i
      have hb := hB.dg hBp i
      have hAz : M ≤ i → dg a i = 0 := fun h => dg_above (Nat.le_trans hla h)
      have hBz : M ≤ i → dg b i = 0 := fun h => dg_above (Nat.le_trans hlb h)
      rw [hBe] at ha hb
      obtain ⟨t, ht⟩ : ∃ t, dg a i + dg b i + cy = t := ⟨_, rfl⟩
      have ht0 : 0 ≤ t := by clear hV; omega
      have ht1 : t < 512 := by clear hV; omega
      have hdm : t = t % 256 + t / 256 * B := by rw [hBe]; clear hV; omega
      have hr1 : t % 256 < B := by rw [hBe]; clear hV; omega
      have hr0 : 0 ≤ t % 256 := by clear hV; omega
      have hq0 : 0 ≤ t / 256 := by clear hV; omega
      have hq1 : t / 256 ≤ 1 := by clear hV; omega
      have hqz : M < i + 1 → t / 256 = 0 := by clear hV; omega
      obtain ⟨r, nr, dr, lr, vr, hr⟩ := ih (i + 1) (out ++ [t % 256]) (t / 256) hc' (by rw [List.length_append, hlen]; rfl) (hd.snoc hr0 hr1) hq0 hq1 hqz ⟨by
        rw [V_snoc, hlen, Int.pow_succ]
        exact ring_add8 (V B out) (t % 256) (t / 256) t (dg a i) (dg b i) cy _ _ (B ^ i) B ht.symm hdm hV.out⟩
      subst hBe
      refine ⟨r, nr, dr, lr, vr, radd_step a b out i cy r (Nat.le_trans hla hM) (Nat.le_trans hlb hM) hlen hi5 hA hB h0 h1 hgo ?_⟩
      rw [ht]
      exact hr
    · obtain rfl : cy = 0 := by clear hV; omega
      have n1 : ¬ (i : Int) < (a.length : Int) := by clear hV; omega
      have n2 : ¬ (i : Int) < (b.length : Int) := by clear hV; omega
      obtain ⟨r, hr, nr, dr, vr, lr⟩ := trim_ev out (by clear hV; omega) hd
      have hE := hV.out
      rw [Int.zero_mul, Int.add_zero, ← V_sum (by clear hV; omega), ← V_sum (by clear hV; omega)] at hE
      refine ⟨r, nr, dr, by clear hV hE; omega, by rw [vr, hE], Ev.step (f := fun q => sallyportref04_Add.j1 q a b out 0 (i : Int) false) (fun q => ?_) (Ev.step (f := fun q => (sallyportref04_Trim.f q out).bind fun t => some t) (fun q => ?_) (Ev.bind hr (Ev.now _)))⟩
      · simp only [sallyportref04_Add.l0]
        rw [if_neg n1, if_neg n2]
        rfl
      · simp only [sallyportref04_Add.j1]
        rw [if_neg (by simp)]

/-- The sum's digits. -/
theorem radd_ev (a b : List Int) (M : Nat) (hla : a.length ≤ M) (hlb : b.length ≤ M) (hM : M ≤ 2000) (hA : Dig 256 a) (hB : Dig 256 b) :
    ∃ r, Norm r ∧ Dig 256 r ∧ r.length ≤ M + 1 ∧ V 256 r = V 256 a + V 256 b ∧ Ev (fun q => sallyportref04_Add.f q a b) r :=
  radd_loop 256 rfl a b M hla hlb hM hA hB (M + 1) 0 [] 0 (by omega) rfl (Dig.nil _) (by decide) (by decide) (fun h => rfl) ⟨by simp [sumN, V_nil]⟩

/-! ### Sub -/
theorem ring_sub8 (Vo r q t x y c S T X B : Int) (h1 : t = x - c - y) (h2 : t = r - q * B) (h3 : Vo - c * X = S - T) :
    (Vo + (r - 0) * X) - q * (X * B) = (S + x * X) - (T + y * X) := by
  have e : r = x - y - c + q * B := by omega
  subst e
  grind

theorem rsub_step (a b out : List Int) (i : Nat) (bw t r q' : Int) (R : List Int) (hla : a.length ≤ 2000) (hi : i < a.length) (hlen : out.length = a.length) (hA : Dig 256 a) (hB : Dig 256 b) (h0 : 0 ≤ bw) (h1 : bw ≤ 1)
    (ht : dg a i - bw - dg b i = t) (hr : (t < 0 ∧ r = t + 256 ∧ q' = 1) ∨ (0 ≤ t ∧ r = t ∧ q' = 0))
    (next : Ev (fun q => sallyportref04_Sub.l0 q a b (out.set i r) q' ((i + 1 : Nat) : Int)) R) :
    Ev (fun q => sallyportref04_Sub.l0 q a b out bw (i : Int)) R := by
  have ha := hA.dg (by decide) i
  have hb := hB.dg (by decide) i
  have e2 : wrap64 ((i : Int) + 1) = ((i + 1 : Nat) : Int) := by clear next; rw [w64 (by omega) (by omega)]; omega
  have g1 : (i : Int) < (a.length : Int) := by clear next; omega
  have g2 : (0 : Int) ≤ (i : Int) := by clear next; omega
  have g4 : (i : Int) < (out.length : Int) := by clear next; omega
  have e3 : wrap64 (dg a i - bw) = dg a i - bw := by clear next; exact w64 (by omega) (by omega)
  have e4 : wrap64 (dg a i - bw - dg b i) = t := by clear next; rw [w64 (by omega) (by omega)]; exact ht
  have e5 : wrap64 (t + 256) = t + 256 := by clear next; exact w64 (by omega) (by omega)
  refine Ev.step (fun q => ?_) next
  simp only [sallyportref04_Sub.l0]
  rw [if_pos g1, if_pos g2]
  by_cases c2 : (i : Int) < (b.length : Int)
  · rw [if_pos c2, rd_dg, rd_dg, e3, e4]
    rcases hr with ⟨p1, p2, p3⟩ | ⟨p1, p2, p3⟩
    · rw [if_pos p1, if_pos g4, e5, e2, p2, p3, Int.toNat_natCast]
    · rw [if_neg (by omega), if_pos g4, e2, p2, p3, Int.toNat_natCast]
  · have hz : dg b i = 0 := dg_above (by omega)
    have e6 : dg a i - bw = t := by omega
    rw [if_neg c2, rd_dg, e3, e6]
    rcases hr with ⟨p1, p2, p3⟩ | ⟨p1, p2, p3⟩
    · rw [if_pos p1, if_pos g4, e5, e2, p2, p3, Int.toNat_natCast]
    · rw [if_neg (by omega), if_pos g4, e2, p2, p3, Int.toNat_natCast]

theorem rsub_loop (B : Int) (hBe : B = 256) (a b : List Int) (hla : a.length ≤ 2000) (hlb : b.length ≤ a.length) (hA : Dig B a) (hB : Dig B b) (hge : V B b ≤ V B a) :
    ∀ (c i : Nat) (out : List Int) (bw : Int), c + i = a.length → out.length = a.length → Dig B out → 0 ≤ bw → bw ≤ 1 → (∀ j, i ≤ j → dg out j = 0) →
      Aside0 (V B out - bw * B ^ i = sumN B (dg a) i - sumN B (dg b) i) →
      ∃ r, Norm r ∧ Dig B r ∧ r.length ≤ a.length ∧ V B r = V B a - V B b ∧ Ev (fun q => sallyportref04_Sub.l0 q a b out bw (i : Int)) r
  | 0, i, out, bw, hc, hlen, hd, h0, h1, hz, hV => by
    obtain rfl : i = a.length := by clear hV; omega
    have hBp : 0 < B := by rw [hBe]; decide
    have hb := V_bound hBp hd
    have hX := pow_pos' hBp out.length
    have hE := hV.out
    rw [← V_sum (Nat.le_refl _), ← V_sum hlb, ← hlen] at hE
    have hbw : bw = 0 := by
      rcases (show bw = 0 ∨ bw = 1 by clear hE hV; omega) with h | h
      · exact h
      · rw [h, Int.one_mul] at hE
        omega
    subst hbw
    rw [Int.zero_mul, Int.sub_zero] at hE
    obtain ⟨r, hr, nr, dr, vr, lr⟩ := trim_ev out (by clear hV hE; omega) hd
    refine ⟨r, nr, dr, by clear hV hE; omega, by rw [vr, hE], Ev.step (f := fun q => (sallyportref04_Trim.f q out).bind fun t => some t) (fun q => ?_) (Ev.bind hr (Ev.now _))⟩
    simp only [sallyportref04_Sub.l0]
    rw [if_neg (Int.lt_irrefl _)]
  | c + 1, i, out, bw, hc, hlen, hd, h0, h1, hz, hV => by
    have hc' : c + (i + 1) = a.length := by clear hV; omega
    have hi : i < a.length := by clear hV; omega
    have hlt : i < out.length := by clear hV; omega
    have hBp : 0 < B := by rw [hBe]; decide
    have ha := hA.dg hBp i
    have hb := hB.dg hBp i
    rw [hBe] at ha hb
    obtain ⟨t, ht⟩ : ∃ t, dg a i - bw - dg b i = t := ⟨_, rfl⟩
    obtain ⟨r, q, hr⟩ : ∃ r q : Int, (t < 0 ∧ r = t + 256 ∧ q = 1) ∨ (0 ≤ t ∧ r = t ∧ q = 0) := by
      by_cases h : t < 0
      · exact ⟨_, _, .inl ⟨h, rfl, rfl⟩⟩
      · exact ⟨_, _, .inr ⟨by clear hV; omega, rfl, rfl⟩⟩
    have hdm : t = r - q * B := by rw [hBe]; clear hV; omega
    have hr1 : r < B := by rw [hBe]; clear hV; omega
    have hr0 : 0 ≤ r := by clear hV; omega
    have hq0 : 0 ≤ q := by clear hV; omega
    have hq1 : q ≤ 1 := by clear hV; omega
    obtain ⟨r', nr, dr, lr, vr, hn⟩ := rsub_loop B hBe a b hla hlb hA hB hge c (i + 1) (out.set i r) q hc' (by rw [List.length_set]; exact hlen) (hd.set hr0 hr1) hq0 hq1
      (fun j hj => by rw [dg_set hlt, if_neg (by clear hV; omega)]; exact hz j (by clear hV; omega)) ⟨by
        rw [V_set _ _ hlt, hz i (Nat.le_refl _), Int.pow_succ]
        exact ring_sub8 (V B out) r q t (dg a i) (dg b i) bw _ _ (B ^ i) B ht.symm hdm hV.out⟩
    subst hBe
    exact ⟨r', nr, dr, lr, vr, rsub_step a b out i bw t r q r' hla hi hlen hA hB h0 h1 ht hr hn⟩

/-- The difference's digits. -/
theorem rsub_ev (a b : List Int) (hla : a.length ≤ 2000) (hA : Dig 256 a) (hB : Dig 256 b) (na : Norm a) (nb : Norm b) (hge : V 256 b ≤ V 256 a) :
    ∃ r, Norm r ∧ Dig 256 r ∧ r.length ≤ a.length ∧ V 256 r = V 256 a - V 256 b ∧ Ev (fun q => sallyportref04_Sub.f q a b) r := by
  have hlb : b.length ≤ a.length := by
    by_cases h : b.length ≤ a.length
    · exact h
    · have := norm_shorter (by decide) hA hB nb (by omega)
      omega
  obtain ⟨r, nr, dr, lr, vr, hr⟩ := rsub_loop 256 rfl a b hla hlb hA hB hge a.length 0 (List.replicate a.length 0) 0 (by omega) (by simp) (Dig.zeros (by decide) _) (by decide) (by decide) (fun j _ => dg_zeros _ _) ⟨by rw [V_zeros]; simp [sumN]⟩
  refine ⟨r, nr, dr, lr, vr, Ev.congr (fun q => ?_) hr⟩
  unfold sallyportref04_Sub.f
  rw [if_pos (by omega), Int.toNat_natCast, if_pos (by omega)]
  rfl

/-! ### Power -/
theorem power_list (n : Nat) : sallyportref04_Power.f (8 * (n : Int)) = if n ≤ 12500 then some ((List.replicate (n + 1) 0).set n 1) else none := by
  unfold sallyportref04_Power.f
  by_cases h : n ≤ 12500
  · rw [if_pos h, if_pos ⟨by omega, by omega, by omega⟩, show (8 * (n : Int) / 8).toNat = n by omega]
  · rw [if_neg h, if_neg (by omega)]

theorem power_facts (n : Nat) : Norm ((List.replicate (n + 1) (0 : Int)).set n 1) ∧ Dig 256 ((List.replicate (n + 1) 0).set n 1) ∧ ((List.replicate (n + 1) (0 : Int)).set n 1).length = n + 1 ∧ V 256 ((List.replicate (n + 1) 0).set n 1) = 256 ^ n := by
  have hl : n < (List.replicate (n + 1) (0 : Int)).length := by simp
  refine ⟨.inr ?_, (Dig.zeros (by decide) _).set (by decide) (by decide), by simp, ?_⟩
  · rw [show ((List.replicate (n + 1) (0 : Int)).set n 1).length - 1 = n by simp, dg_set hl, if_pos rfl]
    decide
  · rw [V_set _ _ hl, V_zeros, dg_zeros]
    simp
end Go.Proofs.Ytcljdpaniinhmaa.Pure
