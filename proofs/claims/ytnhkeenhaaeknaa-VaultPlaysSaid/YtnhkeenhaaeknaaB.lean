/- The contracts of the vault's Lock and Raise, way by way. Conditions: the pointer leads to a vault that VaultAt describes; counters within int's range. -/
import Derived.Test.YtnhkeenhaaeknaaA
import Derived.RegionTactic
import Derived.Handy
namespace Go.Proofs.Ytnhkeenhaaeknaa
open Go.RowKit
theorem grownBy_drewR {a w : World} {row : Option Nat} (h : a.grownBy w row) : a.grownBy w.drew row := ⟨h.os, h.tape, h.output, h.size, h.block⟩
theorem grownBy_drewNR {a w : World} {row : Option Nat} (h : a.grownBy w row) (n : Nat) : a.grownBy (w.drewN n) row := ⟨h.os, h.tape, h.output, h.size, h.block⟩

section
variable {w : World} {b : Nat} {rv : Value} {lk : Bool} {ix : Nat → Int} {lf : Int} {dn dw : Bool} {ch : Int}

theorem lock_down (h : VaultAt w b rv lk ix lf dn true ch) (on : Bool) :
    Calls Try.prog 11 #[.pointer (some ⟨b, 0, none⟩), .bool on] w fun e w' => e = .returned (.int .i64 42) ∧ VaultAt w' b rv lk ix lf dn true ch ∧ w.grownBy w' (some b) := by
  have h1 := h.down
  have hb := h.lt
  go_enter Try.func11, Try.ntmps11
  go_wp2
  go_ret
  exact ⟨rfl, (h.alloc _).alloc _, Lib.grownBy_allocR (Lib.grownBy_allocR (World.grownBy.refl _ _) _) _⟩

theorem lock_torn (h : VaultAt w b rv lk ix 0 false false ch) (on : Bool) :
    Calls Try.prog 11 #[.pointer (some ⟨b, 0, none⟩), .bool on] w fun e w' => e = .returned (.int .i64 42) ∧ VaultAt w' b rv lk ix 0 false true ch ∧ w.grownBy w' (some b) := by
  have hmf : ∀ (fn : Fn) (first cap : Array Value) (w : World), (Instr.makeFunc fn first cap).run Try.prog w = .ok (.func fn first cap) w := fun _ _ _ _ => rfl
  have h1 := h.down
  have h2 := h.left
  have h3 := h.done
  have f1 := h.free 36
  have hb := h.lt
  go_enter Try.func11, Try.ntmps11
  go_wp2
  go_ret
  exact ⟨rfl, ((h.setDown _).alloc _).alloc _, by repeat (first | (with_reducible exact World.grownBy.refl _ _) | (with_reducible refine Lib.grownBy_allocR ?_ _) | (with_reducible refine grownBy_drewNR ?_ _) | (with_reducible refine grownBy_drewR ?_) | (with_reducible refine Lib.grownBy_setB ?_ _ _))⟩

set_option maxHeartbeats 1000000 in
theorem lock_done (h : VaultAt w b rv lk ix 0 true false ch) (on : Bool) (hc : 0 ≤ ch) (hc2 : ch ≤ 1000000) :
    Calls Try.prog 11 #[.pointer (some ⟨b, 0, none⟩), .bool on] w fun e w' => e = .returned (.int .i64 42) ∧ VaultAt w' b rv on ix (-1) true true (ch + 1) ∧ w.grownBy w' (some b) := by
  have hmf : ∀ (fn : Fn) (first cap : Array Value) (w : World), (Instr.makeFunc fn first cap).run Try.prog w = .ok (.func fn first cap) w := fun _ _ _ _ => rfl
  have h1 := h.down
  have h2 := h.left
  have h3 := h.done
  have h4 := h.changes
  have h5 := h.lock
  have f1 := h.free 36
  have f2 := h.free 34
  have f3 := h.free 37
  have f4 := h.free 1
  have hb := h.lt
  go_enter Try.func11, Try.ntmps11
  go_wp2
  go_ret
  exact ⟨rfl, (((((h.setDown _).setLeft _).setChanges _).setLock _).alloc _).alloc _, by repeat (first | (with_reducible exact World.grownBy.refl _ _) | (with_reducible refine Lib.grownBy_allocR ?_ _) | (with_reducible refine grownBy_drewNR ?_ _) | (with_reducible refine grownBy_drewR ?_) | (with_reducible refine Lib.grownBy_setB ?_ _ _))⟩

set_option maxHeartbeats 1000000 in
theorem lock_does (h : VaultAt w b rv lk ix lf dn false ch) (on : Bool) (hl : (lf == 0) = false) (hlo : -1 ≤ lf) (hhi : lf ≤ 9223372036854775807) (hc : 0 ≤ ch) (hc2 : ch ≤ 1000000) :
    Calls Try.prog 11 #[.pointer (some ⟨b, 0, none⟩), .bool on] w fun e w' => e = .returned (.int .i64 0) ∧ VaultAt w' b rv on ix (if lf - 1 < -1 then -1 else lf - 1) dn false (ch + 1) ∧ w.grownBy w' (some b) := by
  have hmf : ∀ (fn : Fn) (first cap : Array Value) (w : World), (Instr.makeFunc fn first cap).run Try.prog w = .ok (.func fn first cap) w := fun _ _ _ _ => rfl
  have h1 := h.down
  have h2 := h.left
  have h3 := h.done
  have h4 := h.changes
  have h5 := h.lock
  have f1 := h.free 36
  have f2 := h.free 34
  have f3 := h.free 37
  have f4 := h.free 1
  have hb := h.lt
  by_cases hq : lf - 1 < -1
  · rw [if_pos hq]
    go_enter Try.func11, Try.ntmps11
    go_wp2
    go_ret
    exact ⟨rfl, ((((h.setLeft _).setChanges _).setLock _).alloc _).alloc _, by repeat (first | (with_reducible exact World.grownBy.refl _ _) | (with_reducible refine Lib.grownBy_allocR ?_ _) | (with_reducible refine grownBy_drewNR ?_ _) | (with_reducible refine grownBy_drewR ?_) | (with_reducible refine Lib.grownBy_setB ?_ _ _))⟩
  · rw [if_neg hq]
    go_enter Try.func11, Try.ntmps11
    go_wp2
    go_ret
    exact ⟨rfl, ((((h.setLeft _).setChanges _).setLock _).alloc _).alloc _, by repeat (first | (with_reducible exact World.grownBy.refl _ _) | (with_reducible refine Lib.grownBy_allocR ?_ _) | (with_reducible refine grownBy_drewNR ?_ _) | (with_reducible refine grownBy_drewR ?_) | (with_reducible refine Lib.grownBy_setB ?_ _ _))⟩

/-! ### Raise -/
theorem raise_down (h : VaultAt w b rv lk ix lf dn true ch) (i n : Int) :
    Calls Try.prog 10 #[.pointer (some ⟨b, 0, none⟩), .int .i64 i, .int .i64 n] w fun e w' => e = .returned (.int .i64 42) ∧ VaultAt w' b rv lk ix lf dn true ch ∧ w.grownBy w' (some b) := by
  have h1 := h.down
  have hb := h.lt
  have hb1 : b < w.heap.size + 1 := by omega
  have hb2 : b < w.heap.size + 1 + 1 := by omega
  go_enter Try.func10, Try.ntmps10
  go_wp2
  go_ret
  exact ⟨rfl, ((h.alloc _).alloc _).alloc _, by repeat (first | (with_reducible exact World.grownBy.refl _ _) | (with_reducible refine Lib.grownBy_allocR ?_ _) | (with_reducible refine grownBy_drewNR ?_ _) | (with_reducible refine grownBy_drewR ?_) | (with_reducible refine Lib.grownBy_setB ?_ _ _))⟩

theorem raise_range (h : VaultAt w b rv lk ix lf dn false ch) (i n : Int) (hr : i < 0 ∨ 32 ≤ i ∨ n < 0 ∨ 281474976710656 < n) :
    Calls Try.prog 10 #[.pointer (some ⟨b, 0, none⟩), .int .i64 i, .int .i64 n] w fun e w' => e = .returned (.int .i64 13) ∧ VaultAt w' b rv lk ix lf dn false ch ∧ w.grownBy w' (some b) := by
  have h1 := h.down
  have hb := h.lt
  have hb1 : b < w.heap.size + 1 := by omega
  have hb2 : b < w.heap.size + 1 + 1 := by omega
  by_cases a1 : i < 0
  · clear hr
    go_enter Try.func10, Try.ntmps10
    go_wp2
    go_ret
    exact ⟨rfl, ((h.alloc _).alloc _).alloc _, by repeat (first | (with_reducible exact World.grownBy.refl _ _) | (with_reducible refine Lib.grownBy_allocR ?_ _) | (with_reducible refine grownBy_drewNR ?_ _) | (with_reducible refine grownBy_drewR ?_) | (with_reducible refine Lib.grownBy_setB ?_ _ _))⟩
  · by_cases a2 : 32 ≤ i
    · clear hr
      go_enter Try.func10, Try.ntmps10
      go_wp2
      go_ret
      exact ⟨rfl, ((h.alloc _).alloc _).alloc _, by repeat (first | (with_reducible exact World.grownBy.refl _ _) | (with_reducible refine Lib.grownBy_allocR ?_ _) | (with_reducible refine grownBy_drewNR ?_ _) | (with_reducible refine grownBy_drewR ?_) | (with_reducible refine Lib.grownBy_setB ?_ _ _))⟩
    · by_cases a3 : n < 0
      · clear hr
        go_enter Try.func10, Try.ntmps10
        go_wp2
        go_ret
        exact ⟨rfl, ((h.alloc _).alloc _).alloc _, by repeat (first | (with_reducible exact World.grownBy.refl _ _) | (with_reducible refine Lib.grownBy_allocR ?_ _) | (with_reducible refine grownBy_drewNR ?_ _) | (with_reducible refine grownBy_drewR ?_) | (with_reducible refine Lib.grownBy_setB ?_ _ _))⟩
      · have a4 : 281474976710656 < n := by omega
        clear hr
        go_enter Try.func10, Try.ntmps10
        go_wp2
        go_ret
        exact ⟨rfl, ((h.alloc _).alloc _).alloc _, by repeat (first | (with_reducible exact World.grownBy.refl _ _) | (with_reducible refine Lib.grownBy_allocR ?_ _) | (with_reducible refine grownBy_drewNR ?_ _) | (with_reducible refine grownBy_drewR ?_) | (with_reducible refine Lib.grownBy_setB ?_ _ _))⟩

theorem raise_back (h : VaultAt w b rv lk ix lf dn false ch) (i : Nat) (hi : i < 32) (n : Int) (hn0 : 0 ≤ n) (hn : n ≤ 281474976710656) (hlt : n < ix i) :
    Calls Try.prog 10 #[.pointer (some ⟨b, 0, none⟩), .int .i64 i, .int .i64 n] w fun e w' => e = .returned (.int .i64 52) ∧ VaultAt w' b rv lk ix lf dn false ch ∧ w.grownBy w' (some b) := by
  have h1 := h.down
  have h2 := h.index i hi
  have hb := h.lt
  have hb1 : b < w.heap.size + 1 := by omega
  have hb2 : b < w.heap.size + 1 + 1 := by omega
  go_enter Try.func10, Try.ntmps10
  go_wp2
  go_quiet (fail)
  go_wp2
  go_ret
  exact ⟨rfl, by repeat (first | exact h | refine VaultAt.alloc ?_ _ | refine VaultAt.drewN ?_ _ | refine VaultAt.drew ?_), by repeat (first | (with_reducible exact World.grownBy.refl _ _) | (with_reducible refine Lib.grownBy_allocR ?_ _) | (with_reducible refine grownBy_drewNR ?_ _) | (with_reducible refine grownBy_drewR ?_) | (with_reducible refine Lib.grownBy_setB ?_ _ _))⟩

theorem raise_torn (h : VaultAt w b rv lk ix 0 false false ch) (i : Nat) (hi : i < 32) (n : Int) (hn0 : 0 ≤ n) (hn : n ≤ 281474976710656) (hge : ix i ≤ n) :
    Calls Try.prog 10 #[.pointer (some ⟨b, 0, none⟩), .int .i64 i, .int .i64 n] w fun e w' => e = .returned (.int .i64 42) ∧ VaultAt w' b rv lk ix 0 false true ch ∧ w.grownBy w' (some b) := by
  have hmf : ∀ (fn : Fn) (first cap : Array Value) (w : World), (Instr.makeFunc fn first cap).run Try.prog w = .ok (.func fn first cap) w := fun _ _ _ _ => rfl
  have h1 := h.down
  have h2 := h.index i hi
  have h3 := h.left
  have h4 := h.done
  have f1 := h.free 36
  have hb := h.lt
  have hb1 : b < w.heap.size + 1 := by omega
  have hb2 : b < w.heap.size + 1 + 1 := by omega
  go_enter Try.func10, Try.ntmps10
  go_wp2
  go_quiet (fail)
  go_wp2
  go_ret
  exact ⟨rfl, by
    repeat (first | exact h.setDown _ | refine VaultAt.alloc ?_ _ | refine VaultAt.drewN ?_ _ | refine VaultAt.drew ?_ | refine VaultAt.setDown (dw := false) ?_ _ | exact h), by repeat (first | (with_reducible exact World.grownBy.refl _ _) | (with_reducible refine Lib.grownBy_allocR ?_ _) | (with_reducible refine grownBy_drewNR ?_ _) | (with_reducible refine grownBy_drewR ?_) | (with_reducible refine Lib.grownBy_setB ?_ _ _))⟩

set_option maxHeartbeats 1000000 in
theorem raise_done (h : VaultAt w b rv lk ix 0 true false ch) (i : Nat) (hi : i < 32) (n : Int) (hn0 : 0 ≤ n) (hn : n ≤ 281474976710656) (hge : ix i ≤ n) (hc : 0 ≤ ch) (hc2 : ch ≤ 1000000) :
    Calls Try.prog 10 #[.pointer (some ⟨b, 0, none⟩), .int .i64 i, .int .i64 n] w fun e w' => e = .returned (.int .i64 42) ∧ VaultAt w' b rv lk (putIx ix i n) (-1) true true (ch + 1) ∧ w.grownBy w' (some b) := by
  have hmf : ∀ (fn : Fn) (first cap : Array Value) (w : World), (Instr.makeFunc fn first cap).run Try.prog w = .ok (.func fn first cap) w := fun _ _ _ _ => rfl
  have h1 := h.down
  have h2 := h.index i hi
  have h3 := h.left
  have h4 := h.done
  have h5 := h.changes
  have f1 := h.free 36
  have f2 := h.free 34
  have f3 := h.free 37
  have f4 := h.free (2 + i)
  have hb := h.lt
  have hb1 : b < w.heap.size + 1 := by omega
  have hb2 : b < w.heap.size + 1 + 1 := by omega
  go_enter Try.func10, Try.ntmps10
  go_wp2
  go_quiet (fail)
  go_wp2
  go_region
  go_wp2
  go_ret
  exact ⟨rfl, ((((((((h.alloc _).alloc _).alloc _).drewN _).setDown _).setLeft _).setChanges _).setIndex i hi _).drew, by repeat (first | (with_reducible exact World.grownBy.refl _ _) | (with_reducible refine Lib.grownBy_allocR ?_ _) | (with_reducible refine grownBy_drewNR ?_ _) | (with_reducible refine grownBy_drewR ?_) | (with_reducible refine Lib.grownBy_setB ?_ _ _))⟩

set_option maxHeartbeats 1000000 in
theorem raise_does (h : VaultAt w b rv lk ix lf dn false ch) (i : Nat) (hi : i < 32) (n : Int) (hn0 : 0 ≤ n) (hn : n ≤ 281474976710656) (hge : ix i ≤ n) (hl : (lf == 0) = false) (hlo : -1 ≤ lf) (hhi : lf ≤ 9223372036854775807) (hc : 0 ≤ ch) (hc2 : ch ≤ 1000000) :
    Calls Try.prog 10 #[.pointer (some ⟨b, 0, none⟩), .int .i64 i, .int .i64 n] w fun e w' => e = .returned (.int .i64 0) ∧ VaultAt w' b rv lk (putIx ix i n) (if lf - 1 < -1 then -1 else lf - 1) dn false (ch + 1) ∧ w.grownBy w' (some b) := by
  have hmf : ∀ (fn : Fn) (first cap : Array Value) (w : World), (Instr.makeFunc fn first cap).run Try.prog w = .ok (.func fn first cap) w := fun _ _ _ _ => rfl
  have h1 := h.down
  have h2 := h.index i hi
  have h3 := h.left
  have h5 := h.changes
  have f2 := h.free 34
  have f3 := h.free 37
  have f4 := h.free (2 + i)
  have hb := h.lt
  have hb1 : b < w.heap.size + 1 := by omega
  have hb2 : b < w.heap.size + 1 + 1 := by omega
  by_cases hq : lf - 1 < -1
  · rw [if_pos hq]
    go_enter Try.func10, Try.ntmps10
    go_wp2
    go_quiet (fail)
    go_wp2
    go_region
    go_wp2
    go_ret
    exact ⟨rfl, (((((((h.alloc _).alloc _).alloc _).drewN _).setLeft _).setChanges _).setIndex i hi _).drew, by repeat (first | (with_reducible exact World.grownBy.refl _ _) | (with_reducible refine Lib.grownBy_allocR ?_ _) | (with_reducible refine grownBy_drewNR ?_ _) | (with_reducible refine grownBy_drewR ?_) | (with_reducible refine Lib.grownBy_setB ?_ _ _))⟩
  · rw [if_neg hq]
    go_enter Try.func10, Try.ntmps10
    go_wp2
    go_quiet (fail)
    go_wp2
    go_region
    go_wp2
    go_ret
    exact ⟨rfl, (((((((h.alloc _).alloc _).alloc _).drewN _).setLeft _).setChanges _).setIndex i hi _).drew, by repeat (first | (with_reducible exact World.grownBy.refl _ _) | (with_reducible refine Lib.grownBy_allocR ?_ _) | (with_reducible refine grownBy_drewNR ?_ _) | (with_reducible refine grownBy_drewR ?_) | (with_reducible refine Lib.grownBy_setB ?_ _ _))⟩
end
end Go.Proofs.Ytnhkeenhaaeknaa
