/- The contract of math/bits.Sub32 at words and a borrow of 0 or 1: the difference mod 2^32, and what is borrowed. -/
import Derived.Test.YtcljdpaniinhmaaLx0
namespace Go.Proofs.Ytcljdpaniinhmaa.L
open Go.RowKit Go.Proofs.YtcljdpaniinhmaaW.PrintWords Go.Proofs.YtcljdpaniinhmaaW.PrintLast Go.Proofs.YtcljdpaniinhmaaW.PrintMore
set_option linter.unusedVariables false

theorem wrap_nat32 (v : BitVec 32) : IntKind.u32.wrap (v.toNat : Int) = (v.toNat : Int) := by
  rw [IntKind.wrap_u32]
  have := v.isLt
  omega

theorem bits_and32 (x y : BitVec 32) : bits .and .u32 (x.toNat : Int) (y.toNat : Int) = ((x &&& y).toNat : Int) := by
  show IntKind.u32.wrap (((BitVec.ofInt 32 (x.toNat : Int)) &&& (BitVec.ofInt 32 (y.toNat : Int))).toNat : Int) = _
  rw [BitVec.ofInt_natCast, BitVec.ofInt_natCast, BitVec.ofNat_toNat, BitVec.ofNat_toNat, BitVec.setWidth_eq, BitVec.setWidth_eq, wrap_nat32]
theorem bits_or32 (x y : BitVec 32) : bits .or .u32 (x.toNat : Int) (y.toNat : Int) = ((x ||| y).toNat : Int) := by
  show IntKind.u32.wrap (((BitVec.ofInt 32 (x.toNat : Int)) ||| (BitVec.ofInt 32 (y.toNat : Int))).toNat : Int) = _
  rw [BitVec.ofInt_natCast, BitVec.ofInt_natCast, BitVec.ofNat_toNat, BitVec.ofNat_toNat, BitVec.setWidth_eq, BitVec.setWidth_eq, wrap_nat32]
theorem bits_xor32 (x y : BitVec 32) : bits .xor .u32 (x.toNat : Int) (y.toNat : Int) = ((x ^^^ y).toNat : Int) := by
  show IntKind.u32.wrap (((BitVec.ofInt 32 (x.toNat : Int)) ^^^ (BitVec.ofInt 32 (y.toNat : Int))).toNat : Int) = _
  rw [BitVec.ofInt_natCast, BitVec.ofInt_natCast, BitVec.ofNat_toNat, BitVec.ofNat_toNat, BitVec.setWidth_eq, BitVec.setWidth_eq, wrap_nat32]

theorem max32 : IntKind.u32.max = (((BitVec.allOnes 32).toNat : Nat) : Int) := by decide

theorem top32 (v : BitVec 32) : ((v.toNat : Int) / 2147483648) = if v.msb then 1 else 0 := by
  have h := v.isLt
  rw [BitVec.msb_eq_decide]
  by_cases hm : 2147483648 ≤ v.toNat
  · rw [if_pos (by simpa using hm)]; omega
  · rw [if_neg (by simpa using hm)]; omega

theorem borrow32 (x y z : BitVec 32) :
    bits BinOp.or IntKind.u32 (bits BinOp.and IntKind.u32 (bits BinOp.xor IntKind.u32 IntKind.u32.max (x.toNat : Int)) (y.toNat : Int))
      (bits BinOp.and IntKind.u32 (bits BinOp.xor IntKind.u32 IntKind.u32.max (bits BinOp.xor IntKind.u32 (x.toNat : Int) (y.toNat : Int))) (z.toNat : Int)) / 2147483648 =
    if ((!(decide (2147483648 ≤ x.toNat)) && decide (2147483648 ≤ y.toNat)) || (!((decide (2147483648 ≤ x.toNat)) ^^ (decide (2147483648 ≤ y.toNat))) && decide (2147483648 ≤ z.toNat))) = true then 1 else 0 := by
  rw [max32, bits_xor32, bits_xor32, bits_xor32, bits_and32, bits_and32, bits_or32, top32]
  simp only [BitVec.msb_or, BitVec.msb_and, BitVec.msb_xor, BitVec.msb_allOnes (by decide : 0 < 32), Bool.true_xor]
  simp only [BitVec.msb_eq_decide]

/-- The difference of two words and a borrow; beyond words nothing is said. -/
def bits_Sub32.f (a0 : Int) (a1 : Int) (a2 : Int) : Option (Int × Int) :=
  if 0 ≤ a0 ∧ a0 < 4294967296 ∧ 0 ≤ a1 ∧ a1 < 4294967296 ∧ 0 ≤ a2 ∧ a2 ≤ 1 then some ((a0 - a1 - a2) % 4294967296, if a0 < a1 + a2 then 1 else 0) else none

theorem borrow_is (a0 a1 a2 : Int) (h0 : 0 ≤ a0) (h1 : a0 < 4294967296) (h2 : 0 ≤ a1) (h3 : a1 < 4294967296) (h4 : 0 ≤ a2) (h5 : a2 ≤ 1) :
    bits BinOp.or IntKind.u32 (bits BinOp.and IntKind.u32 (bits BinOp.xor IntKind.u32 IntKind.u32.max a0) a1)
      (bits BinOp.and IntKind.u32 (bits BinOp.xor IntKind.u32 IntKind.u32.max (bits BinOp.xor IntKind.u32 a0 a1)) ((a0 - a1 - a2) % 4294967296)) / 2147483648 = if a0 < a1 + a2 then 1 else 0 := by
  have e : ∀ n : Int, 0 ≤ n → n < 4294967296 → ((BitVec.ofNat 32 n.toNat).toNat : Int) = n := fun n h h' => by
    rw [BitVec.toNat_ofNat, Nat.mod_eq_of_lt (by omega)]
    omega
  have b := borrow32 (BitVec.ofNat 32 a0.toNat) (BitVec.ofNat 32 a1.toNat) (BitVec.ofNat 32 ((a0 - a1 - a2) % 4294967296).toNat)
  have e0 := e a0 h0 h1
  have e1 := e a1 h2 h3
  have e2 := e ((a0 - a1 - a2) % 4294967296) (by omega) (by omega)
  rw [e0, e1, e2] at b
  rw [b]
  generalize (BitVec.ofNat 32 a0.toNat).toNat = p at e0 ⊢
  generalize (BitVec.ofNat 32 a1.toNat).toNat = q at e1 ⊢
  generalize (BitVec.ofNat 32 ((a0 - a1 - a2) % 4294967296).toNat).toNat = s at e2 ⊢
  clear b e
  by_cases c1 : 2147483648 ≤ p <;> by_cases c2 : 2147483648 ≤ q <;> by_cases c3 : 2147483648 ≤ s <;> simp only [c1, c2, c3, decide_true, decide_false] <;> simp <;> omega

theorem bits_Sub32.calls (a0 : Int) (a1 : Int) (a2 : Int) (r1 : Int) (r2 : Int) (w : World) (h : bits_Sub32.f a0 a1 a2 = some (r1, r2)) :
    Calls Try.prog 33 #[.int .u32 a0, .int .u32 a1, .int .u32 a2] w fun e w' => e = .returned (.tuple #[.int .u32 r1, .int .u32 r2]) ∧ Drawn0 w w' := by
  unfold bits_Sub32.f at h
  by_cases hg : 0 ≤ a0 ∧ a0 < 4294967296 ∧ 0 ≤ a1 ∧ a1 < 4294967296 ∧ 0 ≤ a2 ∧ a2 ≤ 1
  · rw [if_pos hg] at h
    obtain ⟨g0, g1, g2, g3, g4, g5⟩ := hg
    have hb := borrow_is a0 a1 a2 g0 g1 g2 g3 g4 g5
    have HB := Aside0.mk hb
    clear hb g0 g1 g2 g3 g4 g5
    simp only [Option.some.injEq, Prod.mk.injEq] at h
    obtain ⟨rfl, rfl⟩ := h
    have HR : Calls Try.prog 33 #[.int .u32 a0, .int .u32 a1, .int .u32 a2] w fun e w' => e = .returned (.tuple #[.int .u32 ((a0 - a1 - a2) % 4294967296), .int .u32 (bits BinOp.or IntKind.u32 (bits BinOp.and IntKind.u32 (bits BinOp.xor IntKind.u32 IntKind.u32.max a0) a1)
      (bits BinOp.and IntKind.u32 (bits BinOp.xor IntKind.u32 IntKind.u32.max (bits BinOp.xor IntKind.u32 a0 a1)) ((a0 - a1 - a2) % 4294967296)) / 2147483648)]) ∧ Drawn0 w w' := by
      go_enter Try.func33, Try.ntmps33
      go_wp2
      all_goals first | exact absurd ‹IntKind.u32.signed = true› (by decide) | skip
      all_goals go_ret2
      all_goals exact ⟨rfl, Drawn0.refl _⟩
    rw [HB.out] at HR
    exact HR
  · rw [if_neg hg] at h
    exact absurd h (by simp)
end Go.Proofs.Ytcljdpaniinhmaa.L
