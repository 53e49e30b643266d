/- What the reference's Trim, Digits, Compare and the law's 'is' answer, in digits' values. Condition: words are words, digits are digits. -/
import Derived.Test.YtcljdpaniinhmaaV1
import Derived.Test.YtcljdpaniinhmaaLx2
namespace Go.Proofs.Ytcljdpaniinhmaa.Pure
open Go.RowKit Go.Proofs.Ytcljdpaniinhmaa.L Go.Proofs.YtcljdpaniinhmaaW.PrintWords Go.Proofs.YtcljdpaniinhmaaW.PrintLast
set_option linter.unusedVariables false

theorem w64 {n : Int} (h0 : -9223372036854775808 ≤ n) (h1 : n ≤ 9223372036854775807) : wrap64 n = n := by unfold wrap64; omega
theorem rd_dg (l : List Int) (i : Nat) : rd l (i : Int) = dg l i := by unfold rd dg; rw [Int.toNat_natCast]

/-! ### Trim -/
theorem trim_loop (l : List Int) (hl : l.length ≤ 100000) : ∀ (n : Nat), n ≤ l.length →
    ∃ r, Ev (fun k => sallyportref04_Trim.l0 k l (n : Int)) r ∧ Norm r ∧ (∃ m, m ≤ n ∧ r = l.take m ∧ ∀ i, m ≤ i → i < n → dg l i = 0)
  | 0, _ => by
    refine ⟨[], Ev.step (f := fun _ => some []) (fun k => ?_) (Ev.now _), .inl rfl, 0, Nat.le_refl _, rfl, fun i _ h => by omega⟩
    simp only [sallyportref04_Trim.l0]
    rw [if_neg (by omega), if_pos (by omega), if_pos (by omega)]
    rfl
  | n + 1, hn => by
    have e : wrap64 (((n + 1 : Nat) : Int) - 1) = (n : Int) := by rw [w64 (by omega) (by omega)]; omega
    by_cases hz : dg l n = 0
    · obtain ⟨r, hr, hnm, m, hm, hrm, hzz⟩ := trim_loop l hl n (by omega)
      refine ⟨r, Ev.step (fun k => ?_) hr, hnm, m, by omega, hrm, fun i h1 h2 => ?_⟩
      · simp only [sallyportref04_Trim.l0]
        rw [if_pos (by omega), e, if_pos (by omega), if_pos (by omega), rd_dg, if_pos hz]
      · by_cases hi : i = n
        · rw [hi]; exact hz
        · exact hzz i h1 (by omega)
    · refine ⟨l.take (n + 1), Ev.step (f := fun _ => some (l.take (n + 1))) (fun k => ?_) (Ev.now _), ?_, n + 1, Nat.le_refl _, rfl, fun i h1 h2 => by omega⟩
      · simp only [sallyportref04_Trim.l0]
        rw [if_pos (by omega), e, if_pos (by omega), if_pos (by omega), rd_dg, if_neg hz, if_pos (by omega), if_pos (by omega), Int.toNat_natCast]
      · refine .inr ?_
        rw [List.length_take, Nat.min_eq_left hn, Nat.add_sub_cancel]
        unfold dg at hz ⊢
        rw [List.getD_eq_getElem?_getD] at hz ⊢
        rwa [List.getElem?_take_of_lt (by omega)]

theorem V_take {b : Int} {l : List Int} {m : Nat} (hm : m ≤ l.length) (h : ∀ i, m ≤ i → i < l.length → dg l i = 0) : V b (l.take m) = V b l := by
  have h1 : V b l = sumN b (dg l) m := sumN_above (fun i hi => by
    by_cases hlt : i < l.length
    · exact h i hi hlt
    · exact dg_above (by omega)) _ hm
  rw [h1]
  unfold V
  rw [List.length_take, Nat.min_eq_left hm]
  refine sumN_congr m (fun i hi => ?_)
  unfold dg
  rw [List.getD_eq_getElem?_getD, List.getD_eq_getElem?_getD, List.getElem?_take_of_lt hi]

/-- A list without noughts at its upper end. -/
theorem trim_ev {b : Int} (l : List Int) (hl : l.length ≤ 100000) (hd : Dig b l) : ∃ r, Ev (fun k => sallyportref04_Trim.f k l) r ∧ Norm r ∧ Dig b r ∧ V b r = V b l ∧ r.length ≤ l.length := by
  obtain ⟨r, hr, hn, m, hm, rfl, hz⟩ := trim_loop l hl l.length (Nat.le_refl _)
  exact ⟨_, hr, hn, hd.take m, V_take hm hz, by rw [List.length_take]; omega⟩

/-! ### Digits -/
theorem word_split (x : Int) (h0 : 0 ≤ x) (h1 : x < 4294967296) : Int.tmod x 256 = x % 256 ∧ (Int.tdiv x 256) % 4294967296 = x / 256 := by
  rw [Int.tmod_eq_emod_of_nonneg h0, Int.tdiv_eq_ediv_of_nonneg h0]
  omega

theorem digits_inner (l : List Int) (hl : l.length ≤ 1000) (i : Nat) (hi : i < l.length) :
    ∀ (c j : Nat) (d : List Int) (x : Int), c + j = 4 → d.length = 4 * i + j → Dig 256 d → 0 ≤ x → x < 256 ^ c → V 256 d + x * 256 ^ d.length = sumN 4294967296 (dg l) (i + 1) →
      ∃ d', d'.length = 4 * (i + 1) ∧ Dig 256 d' ∧ V 256 d' = sumN 4294967296 (dg l) (i + 1) ∧
        ∀ R, Ev (fun k => sallyportref04_Digits.l0 k l d' ((i + 1 : Nat) : Int)) R → Ev (fun k => sallyportref04_Digits.l1 k l d (i : Int) x (j : Int)) R
  | 0, j, d, x, hc, hlen, hd, h0, h1, hV => by
    obtain rfl : j = 4 := by omega
    have hx : x = 0 := by simp at h1; omega
    subst hx
    have e : wrap64 ((i : Int) + 1) = ((i + 1 : Nat) : Int) := by rw [w64 (by omega) (by omega)]; omega
    refine ⟨d, by omega, hd, by rw [← hV]; simp, fun R next => Ev.step (fun k => ?_) next⟩
    simp only [sallyportref04_Digits.l1]
    rw [if_neg (by omega), e]
  | c + 1, j, d, x, hc, hlen, hd, h0, h1, hV => by
    have g1 : (j : Int) < 4 := by clear h1 hV; omega
    have g2 : d.length < 17592186044416 := by clear h1 hV; omega
    have hx4 : x < 4294967296 := by
      have : (256 : Int) ^ (c + 1) ≤ 256 ^ 4 := by
        have hc3 : c = 0 ∨ c = 1 ∨ c = 2 ∨ c = 3 := by omega
        rcases hc3 with rfl | rfl | rfl | rfl <;> decide
      have h4 : (256 : Int) ^ 4 = 4294967296 := by decide
      omega
    obtain ⟨e1, e2⟩ := word_split x h0 hx4
    have e3 : wrap64 (x % 256) = x % 256 := w64 (by omega) (by omega)
    have e4 : wrap64 ((j : Int) + 1) = ((j + 1 : Nat) : Int) := by rw [w64 (by omega) (by omega)]; omega
    have hlt : x / 256 < 256 ^ c := by
      rw [Int.pow_succ] at h1
      exact Int.ediv_lt_of_lt_mul (by decide) h1
    obtain ⟨d', hl', hd', hV', hn'⟩ := digits_inner l hl i hi c (j + 1) (d ++ [x % 256]) (x / 256) (by omega) (by rw [List.length_append, hlen]; rfl) (hd.snoc (by omega) (by omega)) (by omega) hlt (by
      rw [V_snoc, List.length_append, ← hV]
      show V 256 d + x % 256 * 256 ^ d.length + x / 256 * 256 ^ (d.length + 1) = V 256 d + x * 256 ^ d.length
      have h5 : x = x % 256 + x / 256 * 256 := by omega
      have h6 : x * 256 ^ d.length = x % 256 * 256 ^ d.length + x / 256 * 256 * 256 ^ d.length := by rw [← Int.add_mul, ← h5]
      rw [Int.pow_succ, h6, Int.mul_assoc (x / 256) 256 _, Int.mul_comm 256 (256 ^ d.length), Int.add_assoc])
    refine ⟨d', hl', hd', hV', fun R next => Ev.step (fun k => ?_) (hn' R next)⟩
    simp only [sallyportref04_Digits.l1]
    rw [if_pos g1, if_pos g2, e1, e2, e3, e4]

theorem digits_loop (l : List Int) (hl : l.length ≤ 1000) (hw : Dig 4294967296 l) : ∀ (c i : Nat) (d : List Int), c + i = l.length → d.length = 4 * i → Dig 256 d → V 256 d = sumN 4294967296 (dg l) i →
    ∃ r, Ev (fun k => sallyportref04_Digits.l0 k l d (i : Int)) r ∧ Norm r ∧ Dig 256 r ∧ V 256 r = V 4294967296 l ∧ r.length ≤ 4 * l.length
  | 0, i, d, hc, hlen, hd, hV => by
    obtain ⟨r, hr, hn, hdr, hVr, hlr⟩ := trim_ev d (by omega) hd
    refine ⟨r, Ev.step (f := fun k => (sallyportref04_Trim.f k d).bind fun t => some t) (fun k => ?_) (Ev.bind hr (Ev.now _)), hn, hdr, ?_, by omega⟩
    · simp only [sallyportref04_Digits.l0]
      rw [if_neg (by omega)]
    · rw [hVr, hV]
      unfold V
      rw [show i = l.length by omega]
  | c + 1, i, d, hc, hlen, hd, hV => by
    have hi : i < l.length := by omega
    have hwi := hw.dg (by decide) i
    obtain ⟨d', hl', hd', hV', hn'⟩ := digits_inner l hl i hi 4 0 d (dg l i) rfl (by omega) hd hwi.1 (by rw [show (256 : Int) ^ 4 = 4294967296 by decide]; exact hwi.2) (by
      rw [hV, hlen]
      show _ = sumN 4294967296 (dg l) i + dg l i * 4294967296 ^ i
      rw [Int.pow_mul]
      rfl)
    obtain ⟨r, hr, hrest⟩ := digits_loop l hl hw c (i + 1) d' (by omega) hl' hd' hV'
    refine ⟨r, Ev.step (fun k => ?_) (hn' r hr), hrest⟩
    simp only [sallyportref04_Digits.l0]
    rw [if_pos (by omega), if_pos (by omega), rd_dg]
    rfl

/-- The digits of words. -/
theorem digits_ev (l : List Int) (hl : l.length ≤ 1000) (hw : Dig 4294967296 l) : ∃ r, Ev (fun k => sallyportref04_Digits.f k l) r ∧ Norm r ∧ Dig 256 r ∧ V 256 r = V 4294967296 l ∧ r.length ≤ 4 * l.length :=
  digits_loop l hl hw l.length 0 [] (by omega) rfl (Dig.nil _) rfl

/-! ### Compare -/
theorem compare_loop (x y : List Int) (hx : Dig 256 x) (hy : Dig 256 y) (hlx : x.length ≤ 100000) : ∀ (n : Nat), n ≤ x.length → n ≤ y.length →
    Ev (fun k => sallyportref04_Compare.l0 k x y ((n : Int) - 1)) (cmpI (sumN 256 (dg x) n) (sumN 256 (dg y) n))
  | 0, _, _ => by
    refine Ev.step (f := fun _ => some 0) (fun k => ?_) (Ev.now _)
    simp only [sallyportref04_Compare.l0]
    rw [if_neg (by omega)]
  | n + 1, h1, h2 => by
    have e0 : (((n + 1 : Nat) : Int) - 1) = (n : Int) := by omega
    have e : wrap64 ((n : Int) - 1) = (n : Int) - 1 := w64 (by omega) (by omega)
    rw [cmpI_step (by decide) (fun i => hx.dg (by decide) i) (fun i => hy.dg (by decide) i), e0]
    by_cases c1 : dg x n < dg y n
    · refine Ev.step (f := fun _ => some (-1)) (fun k => ?_) (by rw [if_pos c1]; exact Ev.now _)
      simp only [sallyportref04_Compare.l0]
      rw [if_pos (by omega), if_pos (by omega), if_pos (by omega), if_pos (by omega), rd_dg, rd_dg, if_pos c1]
    · by_cases c2 : dg y n < dg x n
      · refine Ev.step (f := fun _ => some 1) (fun k => ?_) (by rw [if_neg c1, if_pos c2]; exact Ev.now _)
        simp only [sallyportref04_Compare.l0]
        rw [if_pos (by omega), if_pos (by omega), if_pos (by omega), if_pos (by omega), rd_dg, rd_dg, if_neg c1, if_pos (by omega)]
      · refine Ev.step (fun k => ?_) (by rw [if_neg c1, if_neg c2]; exact compare_loop x y hx hy hlx n (by omega) (by omega))
        simp only [sallyportref04_Compare.l0]
        rw [if_pos (by omega), if_pos (by omega), if_pos (by omega), if_pos (by omega), rd_dg, rd_dg, if_neg c1, if_neg (by omega), e]

/-- Of two lists without noughts at their upper ends it tells which value is the greater. -/
theorem compare_ev (x y : List Int) (hx : Dig 256 x) (hy : Dig 256 y) (nx : Norm x) (ny : Norm y) (hlx : x.length ≤ 100000) (hly : y.length ≤ 100000) :
    Ev (fun k => sallyportref04_Compare.f k x y) (cmpI (V 256 x) (V 256 y)) := by
  by_cases h : x.length = y.length
  · rw [show V 256 x = sumN 256 (dg x) x.length from rfl, V_sum (l := y) (n := x.length) (by omega)]
    refine Ev.congr (fun k => ?_) (compare_loop x y hx hy hlx x.length (Nat.le_refl _) (by omega))
    · unfold sallyportref04_Compare.f
      rw [if_pos (by omega), w64 (by omega) (by omega)]
  · by_cases h2 : x.length < y.length
    · have hv := norm_shorter (by decide) hx hy ny h2
      refine Ev.congr (f := fun _ => some (-1)) (fun k => ?_) (by unfold cmpI; rw [if_pos hv]; exact Ev.now _)
      unfold sallyportref04_Compare.f
      rw [if_neg (by omega), if_pos (by omega)]
    · have hv := norm_shorter (by decide) hy hx nx (by omega)
      refine Ev.congr (f := fun _ => some 1) (fun k => ?_) (by unfold cmpI; rw [if_neg (by omega), if_pos hv]; exact Ev.now _)
      unfold sallyportref04_Compare.f
      rw [if_neg (by omega), if_neg (by omega)]

theorem cmpI_zero {x y : Int} : cmpI x y = 0 ↔ x = y := by
  unfold cmpI
  by_cases h : x < y
  · rw [if_pos h]; omega
  · rw [if_neg h]
    by_cases h2 : y < x
    · rw [if_pos h2]; omega
    · rw [if_neg h2]; omega

/-- The law's own 'is', where it is. -/
theorem is_ev (n want : List Int) (hl : n.length ≤ 1000) (hw : Dig 4294967296 n) (hd : Dig 256 want) (hn : Norm want) (hlw : want.length ≤ 100000) (width : Int) (h1 : (n.length : Int) = width) (h2 : V 4294967296 n = V 256 want) :
    Ev (fun k => sallyportlaw04_is.f k n want width) true := by
  obtain ⟨r, hr, nr, dr, vr, lr⟩ := digits_ev n hl hw
  have hc := compare_ev r want dr hd nr hn (by omega) hlw
  rw [cmpI_zero.2 (vr.trans h2)] at hc
  refine Ev.congr (fun k => ?_) (Ev.bind (f := fun k t => (sallyportref04_Compare.f k t want).bind fun u => some (u == 0)) hr (Ev.bind (f := fun _ u => some (u == 0)) hc (Ev.now true)))
  unfold sallyportlaw04_is.f
  rw [if_pos h1]

theorem words_dig {l : List Int} (h : ∀ x ∈ l, (Lit.int .u32 x).wf = true) : Dig 4294967296 l := by
  intro x hx
  have hw := h x hx
  simp only [Lit.wf, Bool.and_eq_true, decide_eq_true_eq] at hw
  have e1 : IntKind.u32.min = 0 := rfl
  have e2 : IntKind.u32.max = 4294967295 := rfl
  rw [e1, e2] at hw
  omega

theorem law_right {l : List Int} : sallyportlaw04_right.f l = some (decide (1 ≤ l.length ∧ l.length ≤ 256)) := by
  unfold sallyportlaw04_right.f
  by_cases h1 : 1 ≤ l.length
  · rw [if_pos (by omega)]
    congr 1
    rw [decide_eq_decide]
    omega
  · rw [if_neg (by omega), decide_eq_false (by omega)]
end Go.Proofs.Ytcljdpaniinhmaa.Pure
