/- The ways of VaultPlays that end early: too long a root or list of steps, and a root that isn't of 32 bytes: it returns true, and what lay in memory lies there as it lay. -/
import Derived.Test.YtnhkeenhaaeknaaC
namespace Go.Proofs.Ytnhkeenhaaeknaa
open Go.RowKit
section
variable {w : World}

set_option maxRecDepth 100000 in
theorem plays_big {r : Option Addr} {rn rc : Nat} {lk : Bool} {a : Option Addr} {len cap : Nat} {ask : Int} (h : 100 < rn ∨ 100 < len) :
    Calls Try.prog 6 #[.slice r rn rc, .bool lk, .slice a len cap, .int .i64 ask] w fun e w' => e = .returned (.bool true) ∧ Below w.heap.size w w' := by
  by_cases h1 : 100 < rn
  · clear h
    go_enter Try.func6, Try.ntmps6
    go_wp2_with (fail)
    refine (anchor_calls _).mono ?_
    rintro e w1 ⟨rfl, hb⟩
    have HB := Lib.hid hb
    clear hb
    go_wp2_with (fail)
    go_ret
    exact ⟨rfl, HB.out⟩
  · have h2 : 100 < len := by omega
    clear h
    go_enter Try.func6, Try.ntmps6
    go_wp2_with (fail)
    refine (anchor_calls _).mono ?_
    rintro e w1 ⟨rfl, hb⟩
    have HB := Lib.hid hb
    clear hb
    go_wp2_with (fail)
    go_ret
    exact ⟨rfl, HB.out⟩

set_option maxRecDepth 100000 in
theorem plays_form {r : Option Addr} {rn rc : Nat} {lk : Bool} {a : Option Addr} {len cap : Nat} {ask : Int} (h1 : rn ≤ 100) (h2 : len ≤ 100) (h3 : ((rn : Int) != 32) = true) :
    Calls Try.prog 6 #[.slice r rn rc, .bool lk, .slice a len cap, .int .i64 ask] w fun e w' => e = .returned (.bool true) ∧ Below w.heap.size w w' := by
  go_enter Try.func6, Try.ntmps6
  go_wp2_with (fail)
  refine (anchor_calls _).mono ?_
  rintro e w1 ⟨rfl, hb⟩
  have HB := Lib.hid hb
  clear hb
  go_wp2_with (fail)
  refine (new_bad lk h3).mono ?_
  rintro e w2 ⟨rfl, rfl⟩
  go_wp2_with (fail)
  go_ret
  exact ⟨rfl, HB.out⟩
end
end Go.Proofs.Ytnhkeenhaaeknaa
