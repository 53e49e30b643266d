/- What limbs.From answers: the number that the bytes are, if it has room. Condition: bytes. -/
import Derived.Test.YtcljdpaniinhmaaV2
import Derived.Test.YtcljdpaniinhmaaH3
import Derived.Laws.BitsLemmas
namespace Go.Proofs.Ytcljdpaniinhmaa.Pure
open Go.RowKit Go.Proofs.Ytcljdpaniinhmaa.L Go.Proofs.YtcljdpaniinhmaaW.PrintWords Go.Proofs.YtcljdpaniinhmaaW.PrintLast
set_option linter.unusedVariables false

/-! ### More of sums -/
theorem term_le {b : Int} {f : Nat → Int} (hb : 0 < b) (h : ∀ i, 0 ≤ f i) {x n : Nat} (hx : x < n) : f x * b ^ x ≤ sumN b f n := by
  have h1 := sumN_mono (m := x + 1) hb h n (by omega)
  have h2 : sumN b f (x + 1) = sumN b f x + f x * b ^ x := rfl
  have h3 := sumN_mono (m := 0) hb h x (by omega)
  have h4 : sumN b f 0 = 0 := rfl
  omega

theorem pow_le_pow {b : Int} (hb : 0 < b) {m n : Nat} (h : m ≤ n) : b ^ m ≤ b ^ n := by
  obtain ⟨d, rfl⟩ : ∃ d, n = m + d := ⟨n - m, by omega⟩
  rw [Int.pow_add]
  have h4 := pow_pos' hb d
  have h5 := pow_pos' hb m
  have e1 : b ^ m * 1 ≤ b ^ m * b ^ d := Int.mul_le_mul_of_nonneg_left (by omega) (by omega)
  omega

/-- No digit but 0 stands where there is no room for it. -/
theorem digit_zero {b : Int} {f : Nat → Int} (hb : 0 < b) (h : ∀ i, 0 ≤ f i) {s x n : Nat} (hx : x < n) (hs : s ≤ x) (hV : sumN b f n < b ^ s) : f x = 0 := by
  have h1 := term_le hb h hx
  have h2 := pow_le_pow hb hs
  have h3 := pow_pos' hb x
  have h0 := h x
  rcases (show f x = 0 ∨ 1 ≤ f x by omega) with e | e
  · exact e
  · have h4 : 1 * b ^ x ≤ f x * b ^ x := Int.mul_le_mul_of_nonneg_right e (by omega)
    rw [Int.one_mul] at h4
    omega

/-- Digits are told by the value. -/
theorem digits_same {b : Int} {f g : Nat → Int} (hb : 0 < b) (hf : ∀ i, 0 ≤ f i ∧ f i < b) (hg : ∀ i, 0 ≤ g i ∧ g i < b) : ∀ (n : Nat), sumN b f n = sumN b g n → ∀ i, i < n → f i = g i
  | 0, _, i, hi => by omega
  | n + 1, h, i, hi => by
    have e : f n = g n := by
      rcases (show f n < g n ∨ g n < f n ∨ f n = g n by omega) with c | c | c
      · have := sumN_lt hb hf hg n c
        omega
      · have := sumN_lt hb hg hf n c
        omega
      · exact c
    by_cases hin : i = n
    · rw [hin]; exact e
    · simp only [sumN] at h
      rw [e] at h
      exact digits_same hb hf hg n (by omega) i (by omega)

theorem list_same {b : Int} {l m : List Int} (hb : 0 < b) (hl : Dig b l) (hm : Dig b m) (h : l.length = m.length) (hV : V b l = V b m) : l = m := by
  refine List.ext_getElem h (fun i h1 h2 => ?_)
  have := digits_same hb (fun i => hl.dg hb i) (fun i => hm.dg hb i) l.length (by rw [show sumN b (dg m) l.length = V b m by rw [h]; rfl]; exact hV) i h1
  rw [dg_lt h1, dg_lt h2] at this
  exact this

theorem dg_reverse {l : List Int} {x : Nat} (h : x < l.length) : dg l.reverse x = dg l (l.length - 1 - x) := by
  unfold dg
  rw [List.getD_eq_getElem?_getD, List.getD_eq_getElem?_getD, List.getElem?_reverse h]

theorem Dig.reverse {b : Int} {l : List Int} (h : Dig b l) : Dig b l.reverse := fun x hx => h x (List.mem_reverse.1 hx)

/-! ### limbs.From -/
theorem wraps_u32 (n : Int) (h₀ : 0 ≤ n) (h₁ : n < 2 ^ 32) : IntKind.u32.wrap n = n := by rw [IntKind.wrap_u32]; omega

/-- A byte put above what is there. -/
theorem word_put (r : Nat) (hr : r < 4) (o c : Int) (ho0 : 0 ≤ o) (ho : o < 256 ^ r) (hc0 : 0 ≤ c) (hc : c < 256) :
    bits .or .u32 o (c * 256 ^ r) = o + c * 256 ^ r ∧ o + c * 256 ^ r < 256 ^ (r + 1) ∧ (256 : Int) ^ (r + 1) ≤ 4294967296 := by
  have hcomm : bits .or .u32 o (c * 256 ^ r) = bits .or .u32 (c * 256 ^ r) o := by simp only [bits, BitVec.or_comm]
  rcases (show r = 0 ∨ r = 1 ∨ r = 2 ∨ r = 3 by omega) with rfl | rfl | rfl | rfl
  · rw [hcomm, bits_join .u32 32 (by decide) wraps_u32 0 _ o (by omega) (by omega) (by omega) ho0 (by omega) (by omega)]
    omega
  · rw [hcomm, bits_join .u32 32 (by decide) wraps_u32 8 _ o (by omega) (by omega) (by omega) ho0 (by omega) (by omega)]
    omega
  · rw [hcomm, bits_join .u32 32 (by decide) wraps_u32 16 _ o (by omega) (by omega) (by omega) ho0 (by omega) (by omega)]
    omega
  · rw [hcomm, bits_join .u32 32 (by decide) wraps_u32 24 _ o (by omega) (by omega) (by omega) ho0 (by omega) (by omega)]
    omega

theorem pow_place (k : Nat) : (256 : Int) ^ k = 256 ^ (k % 4) * 4294967296 ^ (k / 4) := by
  have h : (256 : Int) ^ (4 * (k / 4)) = 4294967296 ^ (k / 4) := by rw [Int.pow_mul]; rfl
  rw [← h, ← Int.pow_add, show k % 4 + 4 * (k / 4) = k by omega]

theorem nf_inv (w : Nat) (l : List Int) (hd : Dig 256 l) : ∀ (k : Nat), k ≤ l.length → (∀ x, x < k → okF w l x) →
    Dig 4294967296 (nf w l (List.range k)) ∧ dg (nf w l (List.range k)) (k / 4) < 256 ^ (k % 4) ∧ (∀ j, k / 4 < j → dg (nf w l (List.range k)) j = 0) ∧ V 4294967296 (nf w l (List.range k)) = sumN 256 (dg l.reverse) k
  | 0, _, _ => by
    have e : nf w l (List.range 0) = List.replicate w 0 := rfl
    rw [e]
    exact ⟨Dig.zeros (by decide) _, by rw [dg_zeros]; decide, fun j _ => dg_zeros _ _, V_zeros _ _⟩
  | k + 1, hk, hok => by
    obtain ⟨h1, h2, h3, h4⟩ := nf_inv w l hd k (by omega) (fun x hx => hok x (by omega))
    have hlen := nf_length w l (List.range k)
    rw [List.range_succ, nf_snoc]
    generalize nf w l (List.range k) = n at h1 h2 h3 h4 hlen ⊢
    have hz : dgv l (l.length - 1 - k) = dg l.reverse k := (dg_reverse (by omega)).symm
    have hc := hd.reverse.dg (by decide) k
    have ho := (h1.dg (by decide) (k / 4)).1
    have hr : k % 4 < 4 := by omega
    unfold stepF
    rw [show l.length - 1 - (l.length - 1 - k) = k by omega, hz]
    by_cases hw : k / 4 < w
    · rw [if_pos hw]
      have hlt : k / 4 < n.length := by omega
      obtain ⟨e1, e2, e3⟩ := word_put (k % 4) hr (dg n (k / 4)) (dg l.reverse k) ho h2 hc.1 hc.2
      have hput : putB n k (dg l.reverse k) = n.set (k / 4) (dg n (k / 4) + dg l.reverse k * 256 ^ (k % 4)) := by
        unfold putB
        rw [show dgv n (k / 4) = dg n (k / 4) from rfl, e1]
      have hP := pow_pos' (b := 256) (by decide) (k % 4)
      have h0 : 0 ≤ dg l.reverse k * 256 ^ (k % 4) := Int.mul_nonneg hc.1 (Int.le_of_lt hP)
      rw [hput]
      refine ⟨h1.set (Int.add_nonneg ho h0) (Int.lt_of_lt_of_le e2 e3), ?_, fun j hj => ?_, ?_⟩
      · rcases (show ((k + 1) / 4 = k / 4 ∧ (k + 1) % 4 = k % 4 + 1) ∨ ((k + 1) / 4 = k / 4 + 1 ∧ (k + 1) % 4 = 0) by omega) with ⟨p1, p2⟩ | ⟨p1, p2⟩
        · rw [p1, p2, dg_set hlt, if_pos rfl]
          exact e2
        · rw [p1, p2, dg_set hlt, if_neg (by omega), h3 _ (by omega)]
          decide
      · rw [dg_set hlt, if_neg (by omega)]
        exact h3 j (by omega)
      · rw [V_set _ _ hlt, h4]
        show _ = sumN 256 (dg l.reverse) k + dg l.reverse k * 256 ^ k
        have e5 : dg n (k / 4) + dg l.reverse k * 256 ^ (k % 4) - dg n (k / 4) = dg l.reverse k * 256 ^ (k % 4) := by
          generalize dg l.reverse k * 256 ^ (k % 4) = y
          omega
        rw [e5, pow_place k, Int.mul_assoc]
    · rw [if_neg hw]
      have hzero : dg l.reverse k = 0 := by
        rcases hok k (by omega) with h | h
        · exact absurd h (by rw [show l.length - 1 - (l.length - 1 - k) = k by omega]; exact hw)
        · rw [← hz]; exact h
      refine ⟨h1, ?_, fun j hj => h3 j (by omega), ?_⟩
      · rw [dg_above (by omega)]
        exact pow_pos' (b := 256) (by decide) _
      · show _ = sumN 256 (dg l.reverse) k + dg l.reverse k * 256 ^ k
        rw [hzero, h4, Int.zero_mul, Int.add_zero]

theorem okF_iff {w : Nat} {l : List Int} {x : Nat} (hx : x < l.length) : okF w l x ↔ (x / 4 < w ∨ dg l.reverse x = 0) := by
  unfold okF
  rw [dg_reverse hx, show l.length - 1 - (l.length - 1 - x) = x by omega]
  rfl

/-- Bytes that have room: the number that they are. -/
theorem from_yes (w : Nat) (l : List Int) (h1 : 1 ≤ w) (h2 : w ≤ 256) (hl : l.length ≤ 100000) (hd : Dig 256 l) (hV : V 256 l.reverse < 4294967296 ^ w) :
    ∃ n, n.length = w ∧ Dig 4294967296 n ∧ V 4294967296 n = V 256 l.reverse ∧ limbs_From.f l (w : Int) = some (n, 0) := by
  have hok : ∀ x, x < l.length → okF w l x := fun x hx => by
    rw [okF_iff hx]
    by_cases h : x / 4 < w
    · exact .inl h
    · refine .inr (digit_zero (b := 256) (f := dg l.reverse) (s := 4 * w) (n := l.reverse.length) (by decide) (fun i => (hd.reverse.dg (by decide) i).1) (by simp; exact hx) (by omega) ?_)
      rw [Int.pow_mul]
      exact hV
  obtain ⟨g1, g2, g3, g4⟩ := nf_inv w l hd l.length (Nat.le_refl _) hok
  refine ⟨nf w l (List.range l.length), nf_length _ _ _, g1, ?_, ?_⟩
  · rw [g4, V_sum (l := l.reverse) (n := l.length) (by simp)]
  · unfold limbs_From.f
    rw [if_neg (by omega), if_pos ⟨by omega, fun x hx => hd x hx⟩, Int.toNat_natCast, if_pos hok]

/-- Bytes that have no room. -/
theorem from_big (w : Nat) (l : List Int) (h1 : 1 ≤ w) (h2 : w ≤ 256) (hl : l.length ≤ 100000) (hd : Dig 256 l) (hV : ¬ V 256 l.reverse < 4294967296 ^ w) :
    limbs_From.f l (w : Int) = some ([], 11) := by
  have hok : ¬ ∀ x, x < l.length → okF w l x := fun hok => by
    obtain ⟨g1, g2, g3, g4⟩ := nf_inv w l hd l.length (Nat.le_refl _) hok
    have hb := (V_bound (by decide) g1).2
    rw [g4, nf_length, ← V_sum (by simp)] at hb
    exact hV hb
  unfold limbs_From.f
  rw [if_neg (by omega), if_pos ⟨by omega, fun x hx => hd x hx⟩, Int.toNat_natCast, if_neg hok]

theorem from_no (l : List Int) (a : Int) (h : a < 1 ∨ 256 < a) : limbs_From.f l a = some ([], 24) := by
  unfold limbs_From.f
  rw [if_pos h]
end Go.Proofs.Ytcljdpaniinhmaa.Pure
