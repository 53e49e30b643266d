/- The contract of math/bits.Len32 at words. -/
import Derived.Lib.BitFns
import Derived.Lib.Hide
import Derived.Test.YtcljdpaniinhmaaLx0
namespace Go.Proofs.Ytcljdpaniinhmaa.L
open Go.RowKit Go.Proofs.YtcljdpaniinhmaaW.PrintWords Go.Proofs.YtcljdpaniinhmaaW.PrintLast Go.Proofs.YtcljdpaniinhmaaW.PrintMore
set_option linter.unusedVariables false
set_option linter.unusedSimpArgs false

/-- How many bits a word has. -/
def len32 (x : Int) : Int := (Lib.bitLen x.toNat : Int)

theorem len32_big (x : Int) (h0 : 65536 ≤ x) (h1 : x < 4294967296) : len32 x = 16 + len32 (x / 65536) := by
  unfold len32
  rw [Lib.bitLen_shift16 x.toNat (by omega) (by omega), show (x / 65536).toNat = x.toNat / 65536 by omega]
  omega
theorem len32_mid (x : Int) (h0 : 256 ≤ x) (h1 : x < 4294967296) : len32 x = 8 + len32 (x / 256) := by
  unfold len32
  rw [Lib.bitLen_shift8 x.toNat (by omega) (by omega), show (x / 256).toNat = x.toNat / 256 by omega]
  omega
theorem len32_low (x : Int) (h0 : 0 ≤ x) (h1 : x ≤ 255) : Lib.len8 x = len32 x ∧ 0 ≤ len32 x ∧ len32 x ≤ 8 := by
  have h := Lib.bitLen_le8' x h0 h1
  refine ⟨Lib.len8_of x h0 h1, ?_, ?_⟩ <;> unfold len32 <;> omega

theorem idx8 (y v : Int) (h0 : 0 ≤ y) (h1 : y ≤ 255) (hv : Lib.len8 y = v) (W : World) : (Instr.index 9 (.string Lib.len8tab) (.int .u8 y)).run Try.prog W = .ok (.int .u8 v) W := by
  rw [← hv]
  exact Lib.run_index_len8tab W 9 .u8 y Try.underlying9 h0 h1

theorem len32_calls (x : Int) (h0 : 0 ≤ x) (h1 : x < 4294967296) (w : World) :
    Calls Try.prog 38 #[.int .u32 x] w fun e w' => e = .returned (.int .i64 (len32 x)) ∧ w = w' := by
  by_cases c1 : 65536 ≤ x
  · have e1 := len32_big x c1 h1
    by_cases c2 : 256 ≤ x / 65536
    · have e2 := len32_mid (x / 65536) c2 (by omega)
      obtain ⟨e3, e4, e5⟩ := len32_low (x / 65536 / 256) (by omega) (by omega)
      obtain ⟨v, hv⟩ : ∃ v, Lib.len8 (x / 65536 / 256) = v := ⟨_, rfl⟩
      have HE := Lib.hid (show (24 : Int) + v = len32 x by omega)
      have hv0 : 0 ≤ v := by omega
      have hv1 : v ≤ 8 := by omega
      have hi := idx8 _ v (by omega) (by omega) hv
      clear e1 e2 e3 e4 e5 hv
      go_enter Try.func38, Try.ntmps38
      go_wp2
      go_ret
      exact ⟨by rw [← HE.out]; rfl, rfl⟩
    · obtain ⟨e3, e4, e5⟩ := len32_low (x / 65536) (by omega) (by omega)
      obtain ⟨v, hv⟩ : ∃ v, Lib.len8 (x / 65536) = v := ⟨_, rfl⟩
      have HE := Lib.hid (show (16 : Int) + v = len32 x by omega)
      have hv0 : 0 ≤ v := by omega
      have hv1 : v ≤ 8 := by omega
      have hi := idx8 _ v (by omega) (by omega) hv
      clear e1 e3 e4 e5 hv
      go_enter Try.func38, Try.ntmps38
      go_wp2
      go_ret
      exact ⟨by rw [← HE.out]; rfl, rfl⟩
  · by_cases c2 : 256 ≤ x
    · have e2 := len32_mid x c2 h1
      obtain ⟨e3, e4, e5⟩ := len32_low (x / 256) (by omega) (by omega)
      obtain ⟨v, hv⟩ : ∃ v, Lib.len8 (x / 256) = v := ⟨_, rfl⟩
      have HE := Lib.hid (show (8 : Int) + v = len32 x by omega)
      have hv0 : 0 ≤ v := by omega
      have hv1 : v ≤ 8 := by omega
      have hi := idx8 _ v (by omega) (by omega) hv
      clear e2 e3 e4 e5 hv
      go_enter Try.func38, Try.ntmps38
      go_wp2
      go_ret
      exact ⟨by rw [← HE.out]; rfl, rfl⟩
    · obtain ⟨e3, e4, e5⟩ := len32_low x (by omega) (by omega)
      obtain ⟨v, hv⟩ : ∃ v, Lib.len8 x = v := ⟨_, rfl⟩
      have HE := Lib.hid (show v = len32 x by omega)
      have hv0 : 0 ≤ v := by omega
      have hv1 : v ≤ 8 := by omega
      have hi := idx8 _ v (by omega) (by omega) hv
      clear e3 e4 e5 hv
      go_enter Try.func38, Try.ntmps38
      go_wp2
      go_ret
      exact ⟨by rw [← HE.out]; rfl, rfl⟩
end Go.Proofs.Ytcljdpaniinhmaa.L
