/- What limbs.Bits and limbs.Bytes answer: how many bits a number has; its bytes, if there are enough. Condition: words. -/
import Derived.Test.YtcljdpaniinhmaaV9
import Derived.Test.YtcljdpaniinhmaaH4
import Derived.Test.YtcljdpaniinhmaaLx6
import Derived.Lib.ItoaNum
namespace Go.Proofs.Ytcljdpaniinhmaa.Pure
open Go.RowKit Go.Proofs.Ytcljdpaniinhmaa.L Go.Proofs.YtcljdpaniinhmaaW.PrintWords Go.Proofs.YtcljdpaniinhmaaW.PrintLast Go.Proofs.YtcljdpaniinhmaaW.PrintMore
set_option linter.unusedVariables false

/-! ### How many bits -/
/-- A number has b bits. -/
def IsBits (v : Int) (b : Nat) : Prop := v < 2 ^ b ∧ (b = 0 ∨ 2 ^ (b - 1) ≤ v)

theorem isBits_le {v : Int} {b m : Nat} (h : IsBits v b) : b ≤ m ↔ v < 2 ^ m := by
  constructor
  · intro hb
    exact Int.lt_of_lt_of_le h.1 (pow_le_pow (by decide) hb)
  · intro hv
    rcases h.2 with h0 | h1
    · omega
    · by_cases hm : b ≤ m
      · exact hm
      · have h2 : (2 : Int) ^ m ≤ 2 ^ (b - 1) := pow_le_pow (by decide) (by omega)
        omega

theorem isBits_unique {v : Int} {b c : Nat} (h1 : IsBits v b) (h2 : IsBits v c) : b = c :=
  Nat.le_antisymm ((isBits_le h1).2 h2.1) ((isBits_le h2).2 h1.1)

theorem isBits_zero : IsBits 0 0 := ⟨by decide, .inl rfl⟩

theorem isBits_word (x : Int) (h0 : 0 ≤ x) (h1 : x < 4294967296) : IsBits x (Lib.bitLen x.toNat) := by
  obtain ⟨n, rfl⟩ := Int.eq_ofNat_of_zero_le h0
  rw [Int.toNat_natCast]
  by_cases hn : n = 0
  · subst hn
    exact isBits_zero
  · obtain ⟨a, b, c⟩ := Lib.bitLenAux_bounds 64 n (by omega) hn
    refine ⟨?_, .inr ?_⟩
    · exact_mod_cast c
    · exact_mod_cast b

/-- What stands below adds its places. -/
theorem isBits_high {S d P : Int} {e L : Nat} (hd : IsBits d L) (hd0 : 1 ≤ d) (hS0 : 0 ≤ S) (hP : P = 2 ^ e) (hS : S < P) : IsBits (S + d * P) (e + L) := by
  have hP0 := pow_pos' (b := 2) (by decide) e
  rw [← hP] at hP0
  rcases hd with ⟨h1, h2⟩
  have hL : L ≠ 0 := by
    intro h
    subst h
    simp at h1
    omega
  refine ⟨?_, .inr ?_⟩
  · have e1 : (d + 1) * P ≤ 2 ^ L * P := Int.mul_le_mul_of_nonneg_right (by omega) (by omega)
    rw [Int.add_mul, Int.one_mul] at e1
    rw [Int.pow_add, ← hP, Int.mul_comm P]
    generalize d * P = y at e1 ⊢
    omega
  · have h3 : 2 ^ (L - 1) ≤ d := by
      rcases h2 with h | h
      · exact absurd h hL
      · exact h
    have e1 : 2 ^ (L - 1) * P ≤ d * P := Int.mul_le_mul_of_nonneg_right h3 (by omega)
    rw [show e + L - 1 = e + (L - 1) by omega, Int.pow_add, ← hP, Int.mul_comm P]
    generalize d * P = y at e1 ⊢
    omega

theorem pow_bits (n : Nat) : (4294967296 : Int) ^ n = 2 ^ (32 * n) := by rw [Int.pow_mul]; rfl

theorem bitsL_is (l : List Int) (hd : Dig 4294967296 l) : ∀ (n : Nat), ∃ b : Nat, bitsL l n = (b : Int) ∧ IsBits (sumN 4294967296 (dg l) n) b
  | 0 => ⟨0, rfl, isBits_zero⟩
  | n + 1 => by
    obtain ⟨b, hb, hi⟩ := bitsL_is l hd n
    have hw := hd.dg (by decide) n
    by_cases h : dg l n = 0
    · refine ⟨b, ?_, ?_⟩
      · show (if dg l n = 0 then bitsL l n else _) = _
        rw [if_pos h, hb]
      · show IsBits (sumN 4294967296 (dg l) n + dg l n * 4294967296 ^ n) b
        rw [h, Int.zero_mul, Int.add_zero]
        exact hi
    · refine ⟨32 * n + Lib.bitLen (dg l n).toNat, ?_, ?_⟩
      · show (if dg l n = 0 then bitsL l n else 32 * (n : Int) + len32 (dg l n)) = _
        rw [if_neg h]
        unfold len32
        omega
      · have hs := sumN_bound (b := 4294967296) (by decide) (fun i => hd.dg (by decide) i) n
        exact isBits_high (isBits_word _ hw.1 hw.2) (by omega) hs.1 (pow_bits n) hs.2

/-- How many bits a number has. -/
theorem lbits_is (l : List Int) (h1 : 1 ≤ l.length) (h2 : l.length ≤ 256) (hd : Dig 4294967296 l) : ∃ b : Nat, limbs_Bits.f l = some (b : Int) ∧ IsBits (V 4294967296 l) b := by
  obtain ⟨b, hb, hi⟩ := bitsL_is l hd l.length
  refine ⟨b, ?_, hi⟩
  unfold limbs_Bits.f
  rw [if_pos ⟨h1, h2⟩, if_pos (fun x hx => hd x hx), hb]

theorem lbits_no (l : List Int) (h : ¬ (1 ≤ l.length ∧ l.length ≤ 256)) : limbs_Bits.f l = some 0 := by
  unfold limbs_Bits.f
  rw [if_neg h]

/-! ### limbs.Bytes -/
/-- The byte at a place from below. -/
def byteAt (l : List Int) (p : Nat) : Int := (dg l (p / 4) / 256 ^ (p % 4)) % 256

theorem byteAt_range (l : List Int) (p : Nat) : 0 ≤ byteAt l p ∧ byteAt l p < 256 := by unfold byteAt; omega

theorem byteAt_above {l : List Int} {p : Nat} (h : l.length ≤ p / 4) : byteAt l p = 0 := by
  unfold byteAt
  rw [dg_above h]
  simp

theorem four_bytes (w : Int) (h0 : 0 ≤ w) (h1 : w < 4294967296) : w = (w / 256 ^ 0) % 256 * 256 ^ 0 + (w / 256 ^ 1) % 256 * 256 ^ 1 + (w / 256 ^ 2) % 256 * 256 ^ 2 + (w / 256 ^ 3) % 256 * 256 ^ 3 := by omega

theorem byteAt_sum (l : List Int) (hd : Dig 4294967296 l) : ∀ (m : Nat), sumN 256 (byteAt l) (4 * m) = sumN 4294967296 (dg l) m
  | 0 => rfl
  | m + 1 => by
    have hw := hd.dg (by decide) m
    have hp : ∀ r, r < 4 → byteAt l (4 * m + r) = (dg l m / 256 ^ r) % 256 ∧ (256 : Int) ^ (4 * m + r) = 256 ^ r * 4294967296 ^ m := fun r hr => by
      refine ⟨?_, ?_⟩
      · unfold byteAt
        rw [show (4 * m + r) / 4 = m by omega, show (4 * m + r) % 4 = r by omega]
      · rw [Int.pow_add, Int.pow_mul, Int.mul_comm]
        rfl
    have e4 : sumN 256 (byteAt l) (4 * (m + 1)) = sumN 256 (byteAt l) (4 * m) + byteAt l (4 * m + 0) * 256 ^ (4 * m + 0) + byteAt l (4 * m + 1) * 256 ^ (4 * m + 1) + byteAt l (4 * m + 2) * 256 ^ (4 * m + 2) + byteAt l (4 * m + 3) * 256 ^ (4 * m + 3) := by
      rw [show 4 * (m + 1) = 4 * m + 3 + 1 by omega, sumN, show 4 * m + 3 = 4 * m + 2 + 1 by omega, sumN, show 4 * m + 2 = 4 * m + 1 + 1 by omega, sumN, sumN]
      rfl
    have e5 : sumN 4294967296 (dg l) (m + 1) = sumN 4294967296 (dg l) m + dg l m * 4294967296 ^ m := by rw [sumN]
    rw [e4, e5, byteAt_sum l hd m, (hp 0 (by decide)).1, (hp 1 (by decide)).1, (hp 2 (by decide)).1, (hp 3 (by decide)).1, (hp 0 (by decide)).2, (hp 1 (by decide)).2, (hp 2 (by decide)).2, (hp 3 (by decide)).2]
    have h4 := four_bytes (dg l m) hw.1 hw.2
    generalize (dg l m / 256 ^ 0) % 256 = y0 at h4 ⊢
    generalize (dg l m / 256 ^ 1) % 256 = y1 at h4 ⊢
    generalize (dg l m / 256 ^ 2) % 256 = y2 at h4 ⊢
    generalize (dg l m / 256 ^ 3) % 256 = y3 at h4 ⊢
    generalize (256 : Int) ^ 0 = Z0 at h4 ⊢
    generalize (256 : Int) ^ 1 = Z1 at h4 ⊢
    generalize (256 : Int) ^ 2 = Z2 at h4 ⊢
    generalize (256 : Int) ^ 3 = Z3 at h4 ⊢
    generalize (4294967296 : Int) ^ m = X
    generalize dg l m = d at h4 ⊢
    subst h4
    simp only [Int.add_mul, Int.mul_assoc, Int.add_assoc]

/-- As many bytes as it needs are all that there is. -/
theorem byteAt_all (l : List Int) (hd : Dig 4294967296 l) (n : Nat) (hV : V 4294967296 l < 256 ^ n) : sumN 256 (byteAt l) n = V 4294967296 l := by
  have h1 : sumN 256 (byteAt l) (4 * l.length) = V 4294967296 l := byteAt_sum l hd l.length
  have hz : ∀ i, n ≤ i → byteAt l i = 0 := fun i hi => by
    by_cases h : i < 4 * l.length
    · exact digit_zero (b := 256) (f := byteAt l) (s := n) (by decide) (fun i => (byteAt_range l i).1) h hi (by rw [h1]; exact hV)
    · exact byteAt_above (by omega)
  have hz2 : ∀ i, 4 * l.length ≤ i → byteAt l i = 0 := fun i hi => byteAt_above (by omega)
  rw [← h1, ← sumN_above hz (n + 4 * l.length) (by omega), ← sumN_above hz2 (n + 4 * l.length) (by omega)]

theorem V_rev {b : Int} {out : List Int} {f : Nat → Int} (h : ∀ j, j < out.length → dg out j = f (out.length - 1 - j)) : V b out.reverse = sumN b f out.length := by
  unfold V
  rw [List.length_reverse]
  refine sumN_congr _ (fun i hi => ?_)
  rw [dg_reverse hi, h _ (by omega), show out.length - 1 - (out.length - 1 - i) = i by omega]

theorem lbytes_step (l : List Int) (hl : l.length ≤ 1000) (n x : Nat) (hn : n ≤ 1024) (out : List Int) (hlen : out.length = n) (hx : x < n) (R : List Int × Int) (hz : dg out x = 0)
    (next : ∀ out', out'.length = n → dg out' x = byteAt l (n - 1 - x) → (∀ j, j ≠ x → dg out' j = dg out j) → Ev (fun q => limbs_Bytes.l0 q l (n : Int) out' (n : Int) ((x + 1 : Nat) : Int)) R) :
    Ev (fun q => limbs_Bytes.l0 q l (n : Int) out (n : Int) (x : Int)) R := by
  obtain ⟨p, hp⟩ : ∃ p, n - 1 - x = p := ⟨_, rfl⟩
  rw [hp] at next
  have hlt : x < out.length := by clear next; omega
  have g1 : (x : Int) < (n : Int) := by clear next; omega
  have g3 : (0 : Int) ≤ ((p / 4 : Nat) : Int) := by clear next; omega
  have g4 : (0 : Int) ≤ ((8 * (p % 4) : Nat) : Int) := by clear next; omega
  have g5 : (0 : Int) ≤ (x : Int) := by clear next; omega
  have g6 : (x : Int) < (out.length : Int) := by clear next; omega
  have e1 : wrap64 (wrap64 ((n : Int) - 1) - (x : Int)) = (p : Int) := by
    clear next
    rw [w64 (n := (n : Int) - 1) (by omega) (by omega), w64 (by omega) (by omega)]
    omega
  have e2 : wrap64 (Int.tdiv (p : Int) 4) = ((p / 4 : Nat) : Int) := by
    clear next
    rw [Int.tdiv_eq_ediv_of_nonneg (by omega), w64 (by omega) (by omega)]
    omega
  have e3 : wrap64 (8 * Int.tmod (p : Int) 4) = ((8 * (p % 4) : Nat) : Int) := by
    clear next
    rw [Int.tmod_eq_emod_of_nonneg (by omega), w64 (by omega) (by omega)]
    omega
  have e4 : wrap64 ((x : Int) + 1) = ((x + 1 : Nat) : Int) := by clear next; rw [w64 (by omega) (by omega)]; omega
  by_cases hw : p / 4 < l.length
  · have g2 : ((p / 4 : Nat) : Int) < (l.length : Int) := by clear next e1 e2 e3 e4; omega
    have hs : shr .u32 (dg l (p / 4)) ((8 * (p % 4) : Nat) : Int) % 256 = byteAt l p := by
      unfold shr byteAt
      rw [Int.toNat_natCast, Nat.min_eq_left (show 8 * (p % 4) ≤ IntKind.u32.bits by show _ ≤ 32; omega), Int.pow_mul, show (2 : Int) ^ 8 = 256 from rfl]
    refine Ev.step (fun q => ?_) (next (out.set x (byteAt l p)) (by rw [List.length_set]; exact hlen) (by rw [dg_set hlt, if_pos rfl]) (fun j hj => by rw [dg_set hlt, if_neg hj]))
    simp only [limbs_Bytes.l0]
    rw [if_pos g1, e1, e2, if_pos g2, if_pos g3, e3, if_pos g4, if_pos g5, if_pos g6, rd_dg, hs, e4, Int.toNat_natCast]
  · have habove : byteAt l p = 0 := byteAt_above (Nat.le_of_not_lt hw)
    have g2 : ¬ ((p / 4 : Nat) : Int) < (l.length : Int) := by clear next e1 e2 e3 e4; omega
    refine Ev.step (fun q => ?_) (next out hlen (by rw [hz, habove]) (fun j _ => rfl))
    simp only [limbs_Bytes.l0]
    rw [if_pos g1, e1, e2, if_neg g2, e4]

theorem lbytes_loop (l : List Int) (hl : l.length ≤ 1000) (n : Nat) (hn : n ≤ 1024) : ∀ (c x : Nat) (out : List Int), c + x = n → out.length = n → (∀ j, j < x → dg out j = byteAt l (n - 1 - j)) → (∀ j, x ≤ j → dg out j = 0) →
    ∃ out', out'.length = n ∧ (∀ j, j < n → dg out' j = byteAt l (n - 1 - j)) ∧ Ev (fun q => limbs_Bytes.l0 q l (n : Int) out (n : Int) (x : Int)) (out', 0)
  | 0, x, out, hc, hlen, h1, h2 => by
    refine ⟨out, hlen, fun j hj => h1 j (by omega), Ev.step (f := fun q => some (out, 0)) (fun q => ?_) (Ev.now _)⟩
    simp only [limbs_Bytes.l0]
    rw [if_neg (by omega)]
  | c + 1, x, out, hc, hlen, h1, h2 => by
    have hlt : x < out.length := by omega
    have hl1 : (out.set x (byteAt l (n - 1 - x))).length = n := by rw [List.length_set]; exact hlen
    have hh : ∀ j, j < x + 1 → dg (out.set x (byteAt l (n - 1 - x))) j = byteAt l (n - 1 - j) := fun j hj => by
      rw [dg_set hlt]
      by_cases e : j = x
      · rw [if_pos e, e]
      · rw [if_neg e]
        exact h1 j (by omega)
    have hz : ∀ j, x + 1 ≤ j → dg (out.set x (byteAt l (n - 1 - x))) j = 0 := fun j hj => by
      rw [dg_set hlt, if_neg (by omega)]
      exact h2 j (by omega)
    obtain ⟨out', hl', hd', hn'⟩ := lbytes_loop l hl n hn c (x + 1) _ (by omega) hl1 hh hz
    refine ⟨out', hl', hd', lbytes_step l hl n x hn out hlen (by omega) _ (h2 x (Nat.le_refl _)) (fun o ho hox hoj => ?_)⟩
    have : o = out.set x (byteAt l (n - 1 - x)) := by
      refine List.ext_getElem (by rw [ho, hl1]) (fun i p1 p2 => ?_)
      rw [← dg_lt p1, ← dg_lt p2, dg_set hlt]
      by_cases e : i = x
      · rw [if_pos e, e, hox]
      · rw [if_neg e, hoj i e]
    rw [this]
    exact hn'

theorem pow_eight (n : Nat) : (256 : Int) ^ n = 2 ^ (8 * n) := by rw [Int.pow_mul]; rfl

theorem dig_of {b : Int} {out : List Int} (h : ∀ j, j < out.length → 0 ≤ dg out j ∧ dg out j < b) : Dig b out := by
  intro x hx
  obtain ⟨i, hi, rfl⟩ := List.getElem_of_mem hx
  have := h i hi
  rwa [dg_lt hi] at this

/-- A number that has room is written as its bytes. -/
theorem lbytes_yes (l : List Int) (n : Nat) (h1 : 1 ≤ l.length) (h2 : l.length ≤ 256) (hn : n ≤ 1024) (hd : Dig 4294967296 l) (hV : V 4294967296 l < 256 ^ n) :
    ∃ out, out.length = n ∧ Dig 256 out ∧ V 256 out.reverse = V 4294967296 l ∧ Ev (fun q => limbs_Bytes.f q l (n : Int)) (out, 0) := by
  obtain ⟨b, hb, hi⟩ := lbits_is l h1 h2 hd
  have hle : b ≤ 8 * n := (isBits_le hi).2 (by rw [← pow_eight]; exact hV)
  obtain ⟨out, hl, ho, hn'⟩ := lbytes_loop l (by omega) n hn n 0 (List.replicate n 0) (by omega) (by simp) (fun j hj => by omega) (fun j _ => dg_zeros _ _)
  refine ⟨out, hl, dig_of (fun j hj => by rw [ho j (by omega)]; exact byteAt_range _ _), ?_, ?_⟩
  · rw [V_rev (f := byteAt l) (fun j hj => by rw [ho j (by omega), hl]), hl]
    exact byteAt_all l hd n hV
  · refine Ev.congr (f := fun q => limbs_Bytes.j0 q l (n : Int) false) (fun q => ?_) (Ev.step (fun q => ?_) hn')
    · unfold limbs_Bytes.f limbs_right1.f
      rw [if_pos (by omega), decide_eq_true (by omega), Option.bind_some, if_pos rfl, if_neg (by omega), decide_eq_false (by omega)]
    · simp only [limbs_Bytes.j0]
      rw [if_neg (by simp), hb, Option.bind_some, w64 (by omega) (by omega), if_neg (by omega), if_pos (by omega), Int.toNat_natCast, if_pos (by omega), Option.bind_some, List.length_replicate]
      rfl

/-- Too few bytes. -/
theorem lbytes_big (l : List Int) (n : Nat) (h1 : 1 ≤ l.length) (h2 : l.length ≤ 256) (hn : n ≤ 1024) (hd : Dig 4294967296 l) (hV : ¬ V 4294967296 l < 256 ^ n) :
    Ev (fun q => limbs_Bytes.f q l (n : Int)) ([], 11) := by
  obtain ⟨b, hb, hi⟩ := lbits_is l h1 h2 hd
  have hle : ¬ b ≤ 8 * n := fun h => hV (by rw [pow_eight]; exact (isBits_le hi).1 h)
  refine Ev.congr (f := fun q => limbs_Bytes.j0 q l (n : Int) false) (fun q => ?_) (Ev.step (f := fun q => some ([], 11)) (fun q => ?_) (Ev.now _))
  · unfold limbs_Bytes.f limbs_right1.f
    rw [if_pos (by omega), decide_eq_true (by omega), Option.bind_some, if_pos rfl, if_neg (by omega), decide_eq_false (by omega)]
  · simp only [limbs_Bytes.j0]
    rw [if_neg (by simp), hb, Option.bind_some, w64 (by omega) (by omega), if_pos (by omega)]

/-- No number, or no size. -/
theorem lbytes_no (l : List Int) (a : Int) (h : ¬ (1 ≤ l.length ∧ l.length ≤ 256) ∨ a < 0 ∨ 1024 < a) : Ev (fun q => limbs_Bytes.f q l a) ([], 24) := by
  have hj : Ev (fun q => limbs_Bytes.j0 q l a true) ([], 24) := Ev.step (f := fun _ => some ([], 24)) (fun q => by simp [limbs_Bytes.j0]) (Ev.now _)
  refine Ev.congr (fun q => ?_) hj
  unfold limbs_Bytes.f limbs_right1.f
  by_cases c1 : (l.length : Int) ≥ 1
  · rw [if_pos c1, Option.bind_some]
    by_cases c2 : (l.length : Int) ≤ 256
    · rw [decide_eq_true c2, if_pos rfl]
      by_cases c3 : a < 0
      · rw [if_pos c3]
      · rw [if_neg c3, decide_eq_true (by omega)]
    · rw [decide_eq_false c2, if_neg (by simp)]
  · rw [if_neg c1, Option.bind_some, if_neg (by simp)]
end Go.Proofs.Ytcljdpaniinhmaa.Pure
