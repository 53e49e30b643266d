/- What limbs.Add answers: the sum and what goes over. Condition: words, of one width, at most 256. -/
import Derived.Test.YtcljdpaniinhmaaV2
import Derived.Test.YtcljdpaniinhmaaLx1
namespace Go.Proofs.Ytcljdpaniinhmaa.Pure
open Go.RowKit Go.Proofs.Ytcljdpaniinhmaa.L Go.Proofs.YtcljdpaniinhmaaW.PrintWords Go.Proofs.YtcljdpaniinhmaaW.PrintLast
set_option linter.unusedVariables false

theorem u64w6 {n : Int} (h0 : 0 ≤ n) (h1 : n < 18446744073709551616) : IntKind.u64.wrap n = n := by
  have h : IntKind.u64.wrap n = n % 18446744073709551616 := by simp [IntKind.wrap, IntKind.bits, IntKind.signed]
  rw [h]
  omega

theorem add_word (x y c : Int) (hx0 : 0 ≤ x) (hx1 : x < 4294967296) (hy0 : 0 ≤ y) (hy1 : y < 4294967296) (hc0 : 0 ≤ c) (hc1 : c ≤ 1) :
    bits_Add32.f x y c = some ((x + y + c) % 4294967296, (x + y + c) / 4294967296) := by
  unfold bits_Add32.f
  rw [u64w6 hx0 (by omega), u64w6 hy0 (by omega), u64w6 (n := x + y) (by omega) (by omega), u64w6 hc0 (by omega), u64w6 (n := x + y + c) (by omega) (by omega), Int.emod_eq_of_lt (a := (x + y + c) / 4294967296) (by omega) (by omega)]

theorem ring_add (Vo r q t x y c S T X B : Int) (h1 : t = x + y + c) (h2 : t = r + q * B) (h3 : Vo + c * X = S + T) :
    (Vo + r * X) + q * (X * B) = (S + x * X) + (T + y * X) := by
  have e : r = x + y + c - q * B := by omega
  subst e
  grind

theorem ladd_loop (B : Int) (hBe : B = 4294967296) (a b : List Int) (hla : a.length ≤ 256) (hlb : b.length = a.length) (hA : Dig B a) (hB : Dig B b) :
    ∀ (c i : Nat) (out : List Int) (cy : Int), c + i = a.length → out.length = i → Dig B out → 0 ≤ cy → cy ≤ 1 →
      Aside0 (V B out + cy * B ^ i = sumN B (dg a) i + sumN B (dg b) i) →
      ∃ out' cy', out'.length = a.length ∧ Dig B out' ∧ 0 ≤ cy' ∧ cy' ≤ 1 ∧ V B out' + cy' * B ^ a.length = V B a + V B b ∧
        Ev (fun q => limbs_Add.l0 q a b out cy (a.length : Int) (i : Int)) (out', (cy' == 1), 0)
  | 0, i, out, cy, hc, hlen, hd, h0, h1, hV => by
    obtain rfl : i = a.length := by clear hV; omega
    have g1 : ¬ ((a.length : Int) < (a.length : Int)) := Int.lt_irrefl _
    refine ⟨out, cy, hlen, hd, h0, h1, ?_, Ev.step (f := fun q => some (out, (cy == 1), 0)) (fun q => ?_) (Ev.now _)⟩
    · rw [hV.out, V_sum (l := b) (n := a.length) (Nat.le_of_eq hlb)]
      rfl
    · simp only [limbs_Add.l0]
      rw [if_neg g1]
  | c + 1, i, out, cy, hc, hlen, hd, h0, h1, hV => by
    have hc' : c + (i + 1) = a.length := by clear hV; omega
    have g1 : (i : Int) < (a.length : Int) := by clear hV; omega
    have g2 : (0 : Int) ≤ (i : Int) := by clear hV; omega
    have g3 : (i : Int) < (b.length : Int) := by clear hV; omega
    have g4 : out.length < 35184372088832 := by clear hV; omega
    have e2 : wrap64 ((i : Int) + 1) = ((i + 1 : Nat) : Int) := by clear hV; rw [w64 (by omega) (by omega)]; omega
    have hBp : 0 < B := by rw [hBe]; decide
    have ha := hA.dg hBp i
    have hb := hB.dg hBp i
    rw [hBe] at ha hb
    have hw := add_word (dg a i) (dg b i) cy ha.1 ha.2 hb.1 hb.2 h0 h1
    obtain ⟨t, ht⟩ : ∃ t, dg a i + dg b i + cy = t := ⟨_, rfl⟩
    have ht0 : 0 ≤ t := by clear hV hw; omega
    have ht1 : t < 8589934592 := by clear hV hw; omega
    rw [ht] at hw
    have hdm : t = t % 4294967296 + t / 4294967296 * B := by rw [hBe]; clear hV hw; omega
    have hr1 : t % 4294967296 < B := by rw [hBe]; clear hV hw; omega
    have hr0 : 0 ≤ t % 4294967296 := by clear hV hw; omega
    have hq0 : 0 ≤ t / 4294967296 := by clear hV hw; omega
    have hq1 : t / 4294967296 ≤ 1 := by clear hV hw; omega
    obtain ⟨out', cy', hl', hd', h0', h1', hV', hn'⟩ := ladd_loop B hBe a b hla hlb hA hB c (i + 1) (out ++ [t % 4294967296]) (t / 4294967296) hc' (by rw [List.length_append, hlen]; rfl) (hd.snoc hr0 hr1) hq0 hq1 ⟨by
        rw [V_snoc, hlen, Int.pow_succ]
        exact ring_add (V B out) (t % 4294967296) (t / 4294967296) t (dg a i) (dg b i) cy _ _ (B ^ i) B ht.symm hdm hV.out⟩
    refine ⟨out', cy', hl', hd', h0', h1', hV', Ev.step (fun q => ?_) hn'⟩
    simp only [limbs_Add.l0]
    rw [if_pos g1, if_pos g2, if_pos g1, if_pos g3, rd_dg, rd_dg, hw]
    simp only [Option.bind_some]
    rw [if_pos g4, e2]

/-- The sum of numbers of one width. -/
theorem ladd_ev (a b : List Int) (h1 : 1 ≤ a.length) (h2 : a.length ≤ 256) (h3 : b.length = a.length) (hA : Dig 4294967296 a) (hB : Dig 4294967296 b) :
    ∃ out cy, out.length = a.length ∧ Dig 4294967296 out ∧ 0 ≤ cy ∧ cy ≤ 1 ∧ V 4294967296 out + cy * 4294967296 ^ a.length = V 4294967296 a + V 4294967296 b ∧ Ev (fun q => limbs_Add.f q a b) (out, (cy == 1), 0) := by
  obtain ⟨out, cy, hl, hd, c0, c1, hV, hn⟩ := ladd_loop 4294967296 rfl a b h2 h3 hA hB a.length 0 [] 0 (by omega) rfl (Dig.nil _) (by decide) (by decide) ⟨by simp [sumN, V_nil]⟩
  refine ⟨out, cy, hl, hd, c0, c1, hV, Ev.congr (f := fun q => limbs_Add.j0 q a b [] false) (fun q => ?_) (Ev.step (fun q => ?_) hn)⟩
  · unfold limbs_Add.f limbs_right.f
    rw [decide_eq_true ⟨h1, h2, by omega, by omega⟩]
    simp only [Option.bind_some, if_true]
    rw [h3]
    simp
  · simp only [limbs_Add.j0]
    rw [if_neg (by simp)]
    rfl

/-- Of two widths, or no numbers. -/
theorem ladd_no (a b : List Int) (h : ¬ (1 ≤ a.length ∧ a.length ≤ 256 ∧ 1 ≤ b.length ∧ b.length ≤ 256) ∨ a.length ≠ b.length) : Ev (fun q => limbs_Add.f q a b) ([], false, 24) := by
  have hj : Ev (fun q => limbs_Add.j0 q a b [] true) ([], false, 24) := Ev.step (f := fun _ => some ([], false, 24)) (fun q => by simp [limbs_Add.j0]) (Ev.now _)
  refine Ev.congr (fun q => ?_) hj
  unfold limbs_Add.f limbs_right.f
  by_cases hr : 1 ≤ a.length ∧ a.length ≤ 256 ∧ 1 ≤ b.length ∧ b.length ≤ 256
  · rw [decide_eq_true hr]
    have hne : ((a.length : Int) != (b.length : Int)) = true := by
      rw [bne_iff_ne]
      omega
    simp only [Option.bind_some, if_true]
    rw [hne]
  · rw [decide_eq_false hr]
    simp
end Go.Proofs.Ytcljdpaniinhmaa.Pure
