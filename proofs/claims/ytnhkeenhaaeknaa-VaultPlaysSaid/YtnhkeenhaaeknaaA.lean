/- The vault in memory (VaultAt), what its stores do to that description, and the contracts of the vault's methods.
   Conditions: the pointer leads to a vault that VaultAt describes; counters within int's range. -/
import Derived.Test.YtnhkeenhaaeknaaProg
import Derived.WalkKit
import Derived.KernelRfl
import Derived.RowKit3
import Derived.Deep.LoopGhost
import Derived.Deep.QuietTactic
import Derived.BigQuiet
import Derived.WideLaws
import Derived.Outline
import Derived.Maps.AppendAt
import Derived.Lib.BufferOwn
import Derived.Lib.Hide
namespace Go.Proofs.Ytnhkeenhaaeknaa
open Go.RowKit

/-- Block b of w is a vault: its seven fields, the index as a function of the location. -/
structure VaultAt (w : World) (b : Nat) (rv : Value) (lk : Bool) (ix : Nat → Int) (lf : Int) (dn dw : Bool) (ch : Int) : Prop where
  lt : b < w.heap.size
  root : w.cell? ⟨b, 0, none⟩ = some rv
  lock : w.cell? ⟨b, 1, none⟩ = some (.bool lk)
  index : ∀ i, i < 32 → w.cell? ⟨b, 2 + i, none⟩ = some (.int .i64 (ix i))
  left : w.cell? ⟨b, 34, none⟩ = some (.int .i64 lf)
  done : w.cell? ⟨b, 35, none⟩ = some (.bool dn)
  down : w.cell? ⟨b, 36, none⟩ = some (.bool dw)
  changes : w.cell? ⟨b, 37, none⟩ = some (.int .i64 ch)
  free : ∀ o, w.frozen? ⟨b, o, none⟩ = false

section
variable {w : World} {b : Nat} {rv : Value} {lk : Bool} {ix : Nat → Int} {lf : Int} {dn dw : Bool} {ch : Int}

theorem VaultAt.kept {w' : World} {row : Option Nat} (h : VaultAt w b rv lk ix lf dn dw ch) (hg : w.grownBy w' row) (hne : some b ≠ row) : VaultAt w' b rv lk ix lf dn dw ch := by
  have hb := hg.block b h.lt hne
  have hc : ∀ o, w'.cell? ⟨b, o, none⟩ = w.cell? ⟨b, o, none⟩ := fun o => World.cell?_of_block hb
  have hf : ∀ o, w'.frozen? ⟨b, o, none⟩ = w.frozen? ⟨b, o, none⟩ := fun o => World.frozen?_of_block hb
  exact ⟨Nat.lt_of_lt_of_le h.lt hg.size, (hc _).trans h.root, (hc _).trans h.lock, fun i hi => (hc _).trans (h.index i hi), (hc _).trans h.left, (hc _).trans h.done, (hc _).trans h.down, (hc _).trans h.changes, fun o => (hf o).trans (h.free o)⟩

theorem VaultAt.alloc (h : VaultAt w b rv lk ix lf dn dw ch) (o : Obj) : VaultAt (w.alloc o) b rv lk ix lf dn dw ch :=
  h.kept (World.grownBy_alloc w o none) (by simp)

theorem VaultAt.drew (h : VaultAt w b rv lk ix lf dn dw ch) : VaultAt w.drew b rv lk ix lf dn dw ch :=
  ⟨h.lt, h.root, h.lock, h.index, h.left, h.done, h.down, h.changes, h.free⟩

theorem VaultAt.drewN (h : VaultAt w b rv lk ix lf dn dw ch) (n : Nat) : VaultAt (w.drewN n) b rv lk ix lf dn dw ch :=
  ⟨h.lt, h.root, h.lock, h.index, h.left, h.done, h.down, h.changes, h.free⟩

/-- A store into another block. -/
theorem VaultAt.other (h : VaultAt w b rv lk ix lf dn dw ch) (a : Addr) (u : Value) (hne : b ≠ a.block) : VaultAt (w.setCell a u) b rv lk ix lf dn dw ch := by
  have hc : ∀ o, (w.setCell a u).cell? ⟨b, o, none⟩ = w.cell? ⟨b, o, none⟩ := fun o => World.cell?_setCell_other _ _ _ _ (by intro e; exact hne (by rw [e]))
  exact ⟨by simpa using h.lt, (hc _).trans h.root, (hc _).trans h.lock, fun i hi => (hc _).trans (h.index i hi), (hc _).trans h.left, (hc _).trans h.done, (hc _).trans h.down, (hc _).trans h.changes, fun o => by rw [World.frozen?_setCell]; exact h.free o⟩

theorem other_off {w : World} {b o o' : Nat} {u : Value} (h : o ≠ o') : (w.setCell ⟨b, o, none⟩ u).cell? ⟨b, o', none⟩ = w.cell? ⟨b, o', none⟩ :=
  World.cell?_setCell_other _ _ _ _ (by intro e; injection e with _ e _; exact h e)

theorem VaultAt.setLock (h : VaultAt w b rv lk ix lf dn dw ch) (x : Bool) : VaultAt (w.setCell ⟨b, 1, none⟩ (.bool x)) b rv x ix lf dn dw ch :=
  ⟨by simpa using h.lt, (other_off (by omega)).trans h.root, World.cell?_setCell_same _ _ _ h.lock, fun i hi => (other_off (by omega)).trans (h.index i hi), (other_off (by omega)).trans h.left, (other_off (by omega)).trans h.done, (other_off (by omega)).trans h.down, (other_off (by omega)).trans h.changes, fun o => by rw [World.frozen?_setCell]; exact h.free o⟩

theorem VaultAt.setLeft (h : VaultAt w b rv lk ix lf dn dw ch) (x : Int) : VaultAt (w.setCell ⟨b, 34, none⟩ (.int .i64 x)) b rv lk ix x dn dw ch :=
  ⟨by simpa using h.lt, (other_off (by omega)).trans h.root, (other_off (by omega)).trans h.lock, fun i hi => (other_off (by omega)).trans (h.index i hi), World.cell?_setCell_same _ _ _ h.left, (other_off (by omega)).trans h.done, (other_off (by omega)).trans h.down, (other_off (by omega)).trans h.changes, fun o => by rw [World.frozen?_setCell]; exact h.free o⟩

theorem VaultAt.setDone (h : VaultAt w b rv lk ix lf dn dw ch) (x : Bool) : VaultAt (w.setCell ⟨b, 35, none⟩ (.bool x)) b rv lk ix lf x dw ch :=
  ⟨by simpa using h.lt, (other_off (by omega)).trans h.root, (other_off (by omega)).trans h.lock, fun i hi => (other_off (by omega)).trans (h.index i hi), (other_off (by omega)).trans h.left, World.cell?_setCell_same _ _ _ h.done, (other_off (by omega)).trans h.down, (other_off (by omega)).trans h.changes, fun o => by rw [World.frozen?_setCell]; exact h.free o⟩

theorem VaultAt.setDown (h : VaultAt w b rv lk ix lf dn dw ch) (x : Bool) : VaultAt (w.setCell ⟨b, 36, none⟩ (.bool x)) b rv lk ix lf dn x ch :=
  ⟨by simpa using h.lt, (other_off (by omega)).trans h.root, (other_off (by omega)).trans h.lock, fun i hi => (other_off (by omega)).trans (h.index i hi), (other_off (by omega)).trans h.left, (other_off (by omega)).trans h.done, World.cell?_setCell_same _ _ _ h.down, (other_off (by omega)).trans h.changes, fun o => by rw [World.frozen?_setCell]; exact h.free o⟩

theorem VaultAt.setChanges (h : VaultAt w b rv lk ix lf dn dw ch) (x : Int) : VaultAt (w.setCell ⟨b, 37, none⟩ (.int .i64 x)) b rv lk ix lf dn dw x :=
  ⟨by simpa using h.lt, (other_off (by omega)).trans h.root, (other_off (by omega)).trans h.lock, fun i hi => (other_off (by omega)).trans (h.index i hi), (other_off (by omega)).trans h.left, (other_off (by omega)).trans h.done, (other_off (by omega)).trans h.down, World.cell?_setCell_same _ _ _ h.changes, fun o => by rw [World.frozen?_setCell]; exact h.free o⟩

/-- An index put in its place. -/
def putIx (ix : Nat → Int) (i : Nat) (x : Int) : Nat → Int := fun j => if j = i then x else ix j

theorem VaultAt.setIndex (h : VaultAt w b rv lk ix lf dn dw ch) (i : Nat) (hi : i < 32) (x : Int) : VaultAt (w.setCell ⟨b, 2 + i, none⟩ (.int .i64 x)) b rv lk (putIx ix i x) lf dn dw ch :=
  ⟨by simpa using h.lt, (other_off (by omega)).trans h.root, (other_off (by omega)).trans h.lock, fun j hj => by
    unfold putIx
    by_cases e : j = i
    · subst e; rw [if_pos rfl]; exact World.cell?_setCell_same _ _ _ (h.index j hj)
    · rw [if_neg e]; exact (other_off (by omega)).trans (h.index j hj), (other_off (by omega)).trans h.left, (other_off (by omega)).trans h.done, (other_off (by omega)).trans h.down, (other_off (by omega)).trans h.changes, fun o => by rw [World.frozen?_setCell]; exact h.free o⟩

/-! ### What only reads -/
theorem down_calls (h : VaultAt w b rv lk ix lf dn dw ch) :
    Calls Try.prog 15 #[.pointer (some ⟨b, 0, none⟩)] w fun e w' => e = .returned (.bool dw) ∧ w = w' := by
  have h1 := h.down
  go_enter Try.func15, Try.ntmps15
  go_wp2
  go_ret
  exact ⟨rfl, rfl⟩

theorem locked_calls (h : VaultAt w b rv lk ix lf dn dw ch) :
    Calls Try.prog 16 #[.pointer (some ⟨b, 0, none⟩)] w fun e w' => e = .returned (.bool lk) ∧ w = w' := by
  have h1 := h.lock
  go_enter Try.func16, Try.ntmps16
  go_wp2
  go_ret
  exact ⟨rfl, rfl⟩

theorem changes_calls (h : VaultAt w b rv lk ix lf dn dw ch) :
    Calls Try.prog 17 #[.pointer (some ⟨b, 0, none⟩)] w fun e w' => e = .returned (.int .i64 ch) ∧ w = w' := by
  have h1 := h.changes
  go_enter Try.func17, Try.ntmps17
  go_wp2
  go_ret
  exact ⟨rfl, rfl⟩

theorem index_bad {p : Value} {i : Int} (h : i < 0 ∨ 32 ≤ i) :
    Calls Try.prog 14 #[p, .int .i64 i] w fun e w' => e = .returned (.tuple #[.int .i64 0, .int .i64 13]) ∧ w = w' := by
  rcases h with h | h
  · go_enter Try.func14, Try.ntmps14
    go_wp2
    go_ret2
    exact ⟨rfl, rfl⟩
  · go_enter Try.func14, Try.ntmps14
    go_wp2
    go_ret2
    exact ⟨rfl, rfl⟩

theorem index_good (h : VaultAt w b rv lk ix lf dn dw ch) (i : Nat) (hi : i < 32) :
    Calls Try.prog 14 #[.pointer (some ⟨b, 0, none⟩), .int .i64 i] w fun e w' => e = .returned (.tuple #[.int .i64 (ix i), .int .i64 0]) ∧ w = w' := by
  have h1 := h.index i hi
  go_enter Try.func14, Try.ntmps14
  go_wp2
  go_ret2
  exact ⟨rfl, rfl⟩

/-! ### What writes -/
theorem boot_calls (h : VaultAt w b rv lk ix lf dn dw ch) :
    Calls Try.prog 13 #[.pointer (some ⟨b, 0, none⟩)] w fun e w' => e = .returned (.tuple #[]) ∧ VaultAt w' b rv lk ix (-1) dn false ch ∧ w.grownBy w' (some b) := by
  have h1 := h.down
  have h2 := h.left
  have h3 := h.free 34
  have h4 := h.free 36
  go_enter Try.func13, Try.ntmps13
  go_wp2
  go_end0
  exact ⟨rfl, (h.setLeft _).setDown _, Lib.grownBy_setB (Lib.grownBy_setB (World.grownBy.refl _ _) _ _) _ _⟩

theorem arm_calls (h : VaultAt w b rv lk ix lf dn dw ch) (n : Int) (d : Bool) :
    Calls Try.prog 12 #[.pointer (some ⟨b, 0, none⟩), .int .i64 n, .bool d] w fun e w' => e = .returned (.tuple #[]) ∧ VaultAt w' b rv lk ix (if n < -1 then -1 else n) d dw ch ∧ w.grownBy w' (some b) := by
  have h1 := h.done
  have h2 := h.left
  have h3 := h.free 34
  have h4 := h.free 35
  by_cases hn : n < -1
  · rw [if_pos hn]
    go_enter Try.func12, Try.ntmps12
    go_wp2
    go_end0
    exact ⟨rfl, (h.setLeft _).setDone _, Lib.grownBy_setB (Lib.grownBy_setB (World.grownBy.refl _ _) _ _) _ _⟩
  · rw [if_neg hn]
    go_enter Try.func12, Try.ntmps12
    go_wp2
    go_end0
    exact ⟨rfl, (h.setLeft _).setDone _, Lib.grownBy_setB (Lib.grownBy_setB (World.grownBy.refl _ _) _ _) _ _⟩
end
end Go.Proofs.Ytnhkeenhaaeknaa
