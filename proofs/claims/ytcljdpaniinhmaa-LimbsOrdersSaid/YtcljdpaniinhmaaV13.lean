/- What the reference's Bits answers: how many bits digits have. Condition: digits, no 0 at the upper end. -/
import Derived.Test.YtcljdpaniinhmaaV10
import Derived.Test.YtcljdpaniinhmaaLx10
namespace Go.Proofs.Ytcljdpaniinhmaa.Pure
open Go.RowKit Go.Proofs.Ytcljdpaniinhmaa.L Go.Proofs.YtcljdpaniinhmaaW.PrintWords Go.Proofs.YtcljdpaniinhmaaW.PrintLast
set_option linter.unusedVariables false

theorem isBits_double {x : Int} {L : Nat} (hx : 0 < x) (h : IsBits (x / 2) L) : IsBits x (L + 1) := by
  obtain ⟨h1, h2⟩ := h
  refine ⟨?_, .inr ?_⟩
  · rw [Int.pow_succ]
    generalize (2 : Int) ^ L = P at h1 ⊢
    omega
  · rw [Nat.add_sub_cancel]
    rcases h2 with h0 | h0
    · subst h0
      show (1 : Int) ≤ x
      omega
    · by_cases hL : L = 0
      · subst hL
        show (1 : Int) ≤ x
        omega
      · obtain ⟨M, rfl⟩ : ∃ M, L = M + 1 := ⟨L - 1, by omega⟩
        rw [Nat.add_sub_cancel] at h0
        rw [Int.pow_succ]
        generalize (2 : Int) ^ M = P at h0 ⊢
        omega

theorem rbits_loop : ∀ (m : Nat), m ≤ 8 → ∀ (c : Nat) (x : Int), c + m ≤ 100000 → 0 ≤ x → x < 2 ^ m → ∃ L : Nat, L ≤ m ∧ IsBits x L ∧ Ev (fun k => sallyportref04_Bits.l0 k ((c : Nat) : Int) x) ((c + L : Nat) : Int)
  | 0, _, c, x, hc, h0, h1 => by
    obtain rfl : x = 0 := by
      have : (2 : Int) ^ 0 = 1 := rfl
      omega
    refine ⟨0, Nat.le_refl _, isBits_zero, Ev.step (f := fun _ => some ((c : Nat) : Int)) (fun k => ?_) (Ev.now _)⟩
    simp only [sallyportref04_Bits.l0]
    rw [if_neg (by decide)]
  | m + 1, hm, c, x, hc, h0, h1 => by
    by_cases hx : 0 < x
    · have hx2 : x / 2 < 2 ^ m := by
        rw [Int.pow_succ] at h1
        generalize (2 : Int) ^ m = P at h1 ⊢
        omega
      have hx3 : x < 1024 := by
        have h2 : (2 : Int) ^ (m + 1) ≤ 2 ^ 10 := pow_le_pow (by decide) (by omega)
        have h3 : (2 : Int) ^ 10 = 1024 := by decide
        rw [h3] at h2
        exact Int.lt_of_lt_of_le h1 (Int.le_trans h2 (by decide))
      clear h1
      obtain ⟨L, hL, hb, hn⟩ := rbits_loop m (by omega) (c + 1) (x / 2) (by clear hx2; omega) (by clear hx2; omega) hx2
      have e1 : wrap64 ((c : Int) + 1) = ((c + 1 : Nat) : Int) := by clear hx2 hn; rw [w64 (by omega) (by omega)]; omega
      have e2 : wrap64 (Int.tdiv x 2) = x / 2 := by clear hx2 hn e1; rw [Int.tdiv_eq_ediv_of_nonneg h0]; exact w64 (by omega) (by omega)
      refine ⟨L + 1, Nat.succ_le_succ hL, isBits_double hx hb, ?_⟩
      rw [show c + (L + 1) = c + 1 + L by clear hx2 hn e1 e2; omega]
      refine Ev.step (fun k => ?_) hn
      simp only [sallyportref04_Bits.l0]
      rw [if_pos hx, e1, e2]
    · obtain rfl : x = 0 := Int.le_antisymm (Int.not_lt.1 hx) h0
      refine ⟨0, Nat.zero_le _, isBits_zero, Ev.step (f := fun _ => some ((c : Nat) : Int)) (fun k => ?_) (Ev.now _)⟩
      simp only [sallyportref04_Bits.l0]
      rw [if_neg (by decide)]

/-- How many bits digits have. -/
theorem rbits_ev (r : List Int) (hl : r.length ≤ 2000) (hd : Dig 256 r) (hn : Norm r) : ∃ b : Nat, IsBits (V 256 r) b ∧ Ev (fun k => sallyportref04_Bits.f k r) (b : Int) := by
  by_cases h0 : r.length = 0
  · have hnil : r = [] := List.eq_nil_of_length_eq_zero h0
    subst hnil
    refine ⟨0, isBits_zero, Ev.congr (f := fun _ => some 0) (fun k => ?_) (Ev.now _)⟩
    unfold sallyportref04_Bits.f
    rw [if_pos (by simp)]
  · obtain ⟨n, hln⟩ : ∃ n, r.length = n + 1 := ⟨r.length - 1, by omega⟩
    have hne : dg r n ≠ 0 := by
      rcases hn with h | h
      · exact absurd h h0
      · rwa [hln] at h
    have hdn := hd.dg (by decide) n
    obtain ⟨L, hL, hb, hk⟩ := rbits_loop 8 (Nat.le_refl _) (8 * n) (dg r n) (by omega) hdn.1 hdn.2
    have hs := sumN_bound (b := 256) (by decide) (fun i => hd.dg (by decide) i) n
    refine ⟨8 * n + L, ?_, Ev.congr (fun k => ?_) hk⟩
    · have hV : V 256 r = sumN 256 (dg r) n + dg r n * 256 ^ n := by
        unfold V
        rw [hln]
        rfl
      rw [hV]
      exact isBits_high hb (by omega) hs.1 (pow_eight n) hs.2
    · unfold sallyportref04_Bits.f
      have e1 : wrap64 ((r.length : Int) - 1) = (n : Int) := by rw [w64 (by omega) (by omega)]; omega
      have e2 : wrap64 (8 * (n : Int)) = ((8 * n : Nat) : Int) := by rw [w64 (by omega) (by omega)]; omega
      rw [if_neg (by omega), e1, if_pos (by omega), if_pos (by omega), rd_dg, e2]
end Go.Proofs.Ytcljdpaniinhmaa.Pure
