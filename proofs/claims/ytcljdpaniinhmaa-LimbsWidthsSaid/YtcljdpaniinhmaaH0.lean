/- The contracts of slices.Backward over bytes and over words: what it hands back gives the elements' numbers from the last down. -/
import Derived.RangeFuncNested
import Derived.RangeFuncBound
import Derived.RangeFuncCalls
import Derived.RangeFuncLeaves
import Derived.RangeFuncBox
import Derived.Shelf.Abstract
import Derived.Shelf.RegionOpen
import Derived.WalkKit
import Derived.OwnWalkIn
import Derived.TacticsInMore
import Derived.LoopNIn
import Derived.LoopIn
import Derived.Lib.Hide
import Derived.Test.YtcljdpaniinhmaaLx0
namespace Go.Proofs.Ytcljdpaniinhmaa.L
open Go.RowKit Go.Shelf Go.Proofs.YtcljdpaniinhmaaW.PrintWords Go.Proofs.YtcljdpaniinhmaaW.PrintLast Go.Proofs.YtcljdpaniinhmaaW.PrintMore
attribute [local go_sem] Oper.semAt_some
set_option linter.unusedVariables false

/-- An element, 0 above all; a name of its own, which the walk leaves alone. -/
def dgv (zs : List Int) (j : Nat) : Int := zs.getD j 0
/-- What a round keeps: what lies below n₀, and the iterator's own box. -/
def KeepB (n₀ Bs : Nat) (A B : World) : Prop := Below n₀ A B ∧ B.heap[Bs]? = A.heap[Bs]?
theorem KeepB.refl (n₀ Bs : Nat) (A : World) : KeepB n₀ Bs A A := ⟨Below.refl _ _, rfl⟩
theorem KeepB.trans {n₀ Bs : Nat} {A B C : World} (h : KeepB n₀ Bs A B) (k : KeepB n₀ Bs B C) : KeepB n₀ Bs A C := ⟨h.1.trans k.1, k.2.trans h.2⟩
theorem KeepB.set {n₀ Bs : Nat} (A : World) (p : Addr) (v : Value) (h : n₀ ≤ p.block) (h2 : Bs ≠ p.block) : KeepB n₀ Bs A (A.setCell p v) := ⟨(Below.refl n₀ A).setCell h _, Below.heap_setCell A p v Bs h2⟩
theorem keepB_b {n₀ Bs : Nat} {w : World} (h : n₀ ≤ w.heap.size) (hB : Bs < w.heap.size) (W : World) (l : Nat) (o o' : Obj) (hl : w.heap.size ≤ l) (hk : W.heap[l]? = some o) (hc : o.isCells = false) (hw : o.isWalk = false) : KeepB n₀ Bs W (W.putObj l o') :=
  ⟨belowK_b h W l o o' hl hk hc hw, World.putObj_heap_other (by omega)⟩
theorem add_block' (a : Addr) (n : Nat) : (a.add n).block = a.block := by unfold Addr.add; split <;> rfl

/-- The numbers zs lie from A on, in a block below n₀; or there are none. -/
def IntsB (n₀ : Nat) (W : World) (A : Option Addr) (zs : List Int) : Prop :=
  zs.length ≠ 0 → ∃ b off, A = some ⟨b, off, none⟩ ∧ b < n₀ ∧ ∀ j, j < zs.length → W.cell? ⟨b, off + j, none⟩ = some (.int .u8 (dgv zs j))
theorem IntsB.below {n₀ : Nat} {X Y : World} (h : Below n₀ X Y) {A : Option Addr} {zs : List Int} (hi : IntsB n₀ X A zs) : IntsB n₀ Y A zs := fun h0 => by
  obtain ⟨b, off, e, hb, hc⟩ := hi h0
  exact ⟨b, off, e, hb, fun j hj => (h.cell (p := ⟨b, off + j, none⟩) hb).trans (hc j hj)⟩
theorem intsB_of {w : World} {A : Option Addr} {zs : List Int} (h : Kd.C (Kd.int .u8) w A zs.length zs) : IntsB w.heap.size w A zs := fun h0 => by
  obtain ⟨ad, rfl, hc⟩ := Kd.at_int h 0 (Int.le_refl _) (by omega)
  have hs := World.cell?_spot hc
  have hl := World.block_lt_of_cell? _ _ hc
  rw [add_block'] at hl
  obtain ⟨b, off, spot⟩ := ad
  have hs' : spot = none := hs
  subst hs'
  refine ⟨b, off, rfl, hl, fun j hj => ?_⟩
  obtain ⟨ad2, e2, hc2⟩ := Kd.at_int h j (by omega) (by omega)
  cases e2
  have ha : (⟨b, off, none⟩ : Addr).add (j : Int).toNat = ⟨b, off + j, none⟩ := by unfold Addr.add; split <;> simp_all
  rw [ha] at hc2
  exact hc2

set_option maxRecDepth 100000 in
set_option maxHeartbeats 2000000 in
/-- The iterator's own loop, from the last element down. -/
theorem backB1_in (F : Fence) (n : Nat) (hF : F.fn 41) (hro : F.round = none) (hn : 1 ≤ n) (l Bs n₀ b off len cap : Nat) (zs : List Int) (hreach : len ≤ 35184372088832) (hb : b < n₀) (J Jx : List Nat → World → Prop)
    (hY : ∀ pre x W, J pre W → pre.length < len → YieldAt F (n - 1) Try.prog l #[.int .i64 ((len - 1 - x : Nat) : Int), .int .u8 (dgv zs (len - 1 - x))] W fun e W' =>
      (e = .returned (.bool true) ∧ J (pre ++ [x]) W' ∧ KeepB n₀ Bs W W') ∨ (e = .returned (.bool false) ∧ Jx (pre ++ [x]) W'))
    (W : World) (hBs : W.cell? ⟨Bs, 0, none⟩ = some (.slice (some ⟨b, off, none⟩) len cap)) (hc : ∀ j, j < len → W.cell? ⟨b, off + j, none⟩ = some (.int .u8 (dgv zs j))) (h0 : J [] W) :
    CallsIn F n Try.prog 41 #[.func (.yield l) #[] #[], .pointer (some ⟨Bs, 0, none⟩)] W fun e W' => (∃ v, e = .returned v) ∧
      ((∃ ys, ys = List.range len ∧ J ys W') ∨ (∃ pre, (∃ k, k ≤ len ∧ pre = List.range k) ∧ Jx pre W')) := by
  refine callsIn_of_wp Try.func41 rfl hF ?_ hro
  simp only [Try.ntmps41, List.size_toArray, List.length_cons, List.length_nil, Nat.reduceAdd, Nat.reduceSub, Array.replicate_succ, Array.replicate_zero, List.push_toArray, List.append_toArray, List.nil_append, List.cons_append]
  gi_wp2
  gi_loopw [3] (fun i wr => ∃ (k : Nat) (j : Int), k ≤ len ∧ i = .int .i64 j ∧ Hid (j = (len : Int) - 1 - k) ∧ J (List.range k) wr ∧ KeepB n₀ Bs W wr)
    (fun i _ => (intOf i + 1).toNat)
  case atStart => exact ⟨0, _, Nat.zero_le _, rfl, by unfold Hid; omega, h0, KeepB.refl _ _ _⟩
  case round =>
    obtain ⟨k, j, hk, rfl, hj, hJs, hnx⟩ := hrel
    have hBs' := (World.cell?_of_block (a := ⟨Bs, 0, none⟩) hnx.2).trans hBs
    by_cases hlt : k < len
    · obtain ⟨m, rfl⟩ : ∃ m : Nat, j = m := ⟨len - 1 - k, by have := hj.out; omega⟩
      have hm : m < len := by have := hj.out; omega
      obtain ⟨fn, tmps, assign, body, hy, hR⟩ := hY _ k wr hJs (by simpa using hlt)
      have e1 : len - 1 - k = m := by have := hj.out; omega
      rw [e1] at hy
      have hcx : wr.cell? ⟨b, off + m, none⟩ = some (.int .u8 (dgv zs m)) := (hnx.1.cell (p := ⟨b, off + m, none⟩) hb).trans (hc m hm)
      have HJ := Lib.hid hj
      have HE := Lib.hid e1
      clear hj e1
      have p0 : (0 : Int) ≤ (m : Int) := by omega
      gi_wp2
      refine hR.mono ?_
      rintro e W3 (⟨rfl, hJ3, hk3⟩ | ⟨rfl, hJx3⟩)
      · gi_wp2
        go_roundw
        case rel => exact ⟨k + 1, _, by omega, rfl, by have := HJ.out.out; unfold Hid; omega, by rw [List.range_succ]; exact hJ3, hnx.trans hk3⟩
        case measure => first | (simp [intOf]; done) | (simp [intOf]; omega)
      · gi_wp2
        refine bodyPost_ret (results_none rfl _ _ _) rfl ?_
        exact ⟨⟨_, rfl⟩, .inr ⟨_, ⟨k + 1, by omega, List.range_succ.symm⟩, hJx3⟩⟩
    · obtain rfl : k = len := by omega
      obtain rfl : j = -1 := by have := hj.out; omega
      clear hj
      gi_wp2
      go_end0
      exact ⟨⟨_, rfl⟩, .inl ⟨_, rfl, hJs⟩⟩

set_option maxRecDepth 100000 in
set_option maxHeartbeats 1000000 in
/-- .. where there is no element: no round. -/
theorem backB0_in (F : Fence) (n : Nat) (hF : F.fn 41) (hro : F.round = none) (l Bs cap : Nat) (A : Option Addr) (J : List Nat → World → Prop) (W : World) (hBs : W.cell? ⟨Bs, 0, none⟩ = some (.slice A 0 cap)) (h0 : J [] W) :
    CallsIn F n Try.prog 41 #[.func (.yield l) #[] #[], .pointer (some ⟨Bs, 0, none⟩)] W fun e W' => (∃ v, e = .returned v) ∧ J [] W' := by
  refine callsIn_of_wp Try.func41 rfl hF ?_ hro
  simp only [Try.ntmps41, List.size_toArray, List.length_cons, List.length_nil, Nat.reduceAdd, Nat.reduceSub, Array.replicate_succ, Array.replicate_zero, List.push_toArray, List.append_toArray, List.nil_append, List.cons_append]
  gi_wp2
  gi_loopw [3] (fun i wr => i = .int .i64 (-1) ∧ J [] wr) (fun _ _ => 0)
  case atStart => exact ⟨rfl, h0⟩
  case round =>
    obtain ⟨rfl, hJs⟩ := hrel
    gi_wp2
    go_end0
    exact ⟨⟨_, rfl⟩, hJs⟩

set_option maxHeartbeats 1000000 in
/-- slices.Backward(s): the slice is boxed; the function value captures the box. -/
theorem backB_in (F : Fence) (n : Nat) (hF : F.fn 34) (hro : F.round = none) (a : Option Addr) (len cap : Nat) (w : World) :
    CallsIn F n Try.prog 34 #[.slice a len cap] w fun e w' => e = .returned (.func (.func 41) #[] #[.pointer (some ⟨w.heap.size, 0, none⟩)]) ∧ w' = w.alloc (.cells #[.slice a len cap] 38) := by
  refine callsIn_of_wp Try.func34 rfl hF ?_ hro
  simp only [Try.ntmps34, List.size_toArray, List.length_cons, List.length_nil, Nat.reduceAdd, Nat.reduceSub, Array.replicate_succ, Array.replicate_zero, List.push_toArray, List.append_toArray, List.nil_append, List.cons_append]
  gi_wp2
  go_ret
  exact ⟨rfl, rfl⟩

/-- What slices.Backward(s) hands back gives the elements' numbers from the last down: all, or the first k. -/
theorem backB_stops (F : Fence) (n : Nat) (hF : F.fn 41) (hro : F.round = none) (hn : 1 ≤ n) (Bs n₀ : Nat) (A : Option Addr) (cap : Nat) (zs : List Int) (hreach : zs.length ≤ 35184372088832) (w : World) (hBs : Bs < w.heap.size) (hn₀ : n₀ ≤ w.heap.size)
    (hc : w.cell? ⟨Bs, 0, none⟩ = some (.slice A zs.length cap)) (hI : IntsB n₀ w A zs) :
    SeqStopsK F n Try.prog 41 #[.pointer (some ⟨Bs, 0, none⟩)] (fun x : Nat => #[Value.int .i64 ((zs.length - 1 - x : Nat) : Int), Value.int .u8 (dgv zs (zs.length - 1 - x))]) (KeepB n₀ Bs) (fun ys => ys = List.range zs.length)
      (fun pre => ∃ k, k ≤ zs.length ∧ pre = List.range k) zs.length w := fun l J Jx W hW _ _ hY h0 => by
  have hc' := (hW.cell (p := ⟨Bs, 0, none⟩) hBs).trans hc
  by_cases h : zs.length = 0
  · rw [h] at hc'
    exact (backB0_in F n hF hro l Bs cap A J W hc' h0).mono fun e W' ⟨he, hj⟩ => ⟨he, .inl ⟨_, by rw [h]; rfl, hj⟩⟩
  · obtain ⟨b, off, rfl, hb, hcs⟩ := (hI.below (hW.mono hn₀)) h
    exact backB1_in F n hF hro hn l Bs n₀ b off zs.length cap zs hreach hb J Jx hY W hc' hcs h0

/-- The numbers zs lie from A on, in a block below n₀; or there are none. -/
def IntsN (n₀ : Nat) (W : World) (A : Option Addr) (zs : List Int) : Prop :=
  zs.length ≠ 0 → ∃ b off, A = some ⟨b, off, none⟩ ∧ b < n₀ ∧ ∀ j, j < zs.length → W.cell? ⟨b, off + j, none⟩ = some (.int .u32 (dgv zs j))
theorem IntsN.below {n₀ : Nat} {X Y : World} (h : Below n₀ X Y) {A : Option Addr} {zs : List Int} (hi : IntsN n₀ X A zs) : IntsN n₀ Y A zs := fun h0 => by
  obtain ⟨b, off, e, hb, hc⟩ := hi h0
  exact ⟨b, off, e, hb, fun j hj => (h.cell (p := ⟨b, off + j, none⟩) hb).trans (hc j hj)⟩
theorem intsN_of {w : World} {A : Option Addr} {zs : List Int} (h : Kd.C (Kd.int .u32) w A zs.length zs) : IntsN w.heap.size w A zs := fun h0 => by
  obtain ⟨ad, rfl, hc⟩ := Kd.at_int h 0 (Int.le_refl _) (by omega)
  have hs := World.cell?_spot hc
  have hl := World.block_lt_of_cell? _ _ hc
  rw [add_block'] at hl
  obtain ⟨b, off, spot⟩ := ad
  have hs' : spot = none := hs
  subst hs'
  refine ⟨b, off, rfl, hl, fun j hj => ?_⟩
  obtain ⟨ad2, e2, hc2⟩ := Kd.at_int h j (by omega) (by omega)
  cases e2
  have ha : (⟨b, off, none⟩ : Addr).add (j : Int).toNat = ⟨b, off + j, none⟩ := by unfold Addr.add; split <;> simp_all
  rw [ha] at hc2
  exact hc2

set_option maxRecDepth 100000 in
set_option maxHeartbeats 2000000 in
/-- The iterator's own loop, from the last element down. -/
theorem backN1_in (F : Fence) (n : Nat) (hF : F.fn 43) (hro : F.round = none) (hn : 1 ≤ n) (l Bs n₀ b off len cap : Nat) (zs : List Int) (hreach : len ≤ 35184372088832) (hb : b < n₀) (J Jx : List Nat → World → Prop)
    (hY : ∀ pre x W, J pre W → pre.length < len → YieldAt F (n - 1) Try.prog l #[.int .i64 ((len - 1 - x : Nat) : Int), .int .u32 (dgv zs (len - 1 - x))] W fun e W' =>
      (e = .returned (.bool true) ∧ J (pre ++ [x]) W' ∧ KeepB n₀ Bs W W') ∨ (e = .returned (.bool false) ∧ Jx (pre ++ [x]) W'))
    (W : World) (hBs : W.cell? ⟨Bs, 0, none⟩ = some (.slice (some ⟨b, off, none⟩) len cap)) (hc : ∀ j, j < len → W.cell? ⟨b, off + j, none⟩ = some (.int .u32 (dgv zs j))) (h0 : J [] W) :
    CallsIn F n Try.prog 43 #[.func (.yield l) #[] #[], .pointer (some ⟨Bs, 0, none⟩)] W fun e W' => (∃ v, e = .returned v) ∧
      ((∃ ys, ys = List.range len ∧ J ys W') ∨ (∃ pre, (∃ k, k ≤ len ∧ pre = List.range k) ∧ Jx pre W')) := by
  refine callsIn_of_wp Try.func43 rfl hF ?_ hro
  simp only [Try.ntmps43, List.size_toArray, List.length_cons, List.length_nil, Nat.reduceAdd, Nat.reduceSub, Array.replicate_succ, Array.replicate_zero, List.push_toArray, List.append_toArray, List.nil_append, List.cons_append]
  gi_wp2
  gi_loopw [3] (fun i wr => ∃ (k : Nat) (j : Int), k ≤ len ∧ i = .int .i64 j ∧ Hid (j = (len : Int) - 1 - k) ∧ J (List.range k) wr ∧ KeepB n₀ Bs W wr)
    (fun i _ => (intOf i + 1).toNat)
  case atStart => exact ⟨0, _, Nat.zero_le _, rfl, by unfold Hid; omega, h0, KeepB.refl _ _ _⟩
  case round =>
    obtain ⟨k, j, hk, rfl, hj, hJs, hnx⟩ := hrel
    have hBs' := (World.cell?_of_block (a := ⟨Bs, 0, none⟩) hnx.2).trans hBs
    by_cases hlt : k < len
    · obtain ⟨m, rfl⟩ : ∃ m : Nat, j = m := ⟨len - 1 - k, by have := hj.out; omega⟩
      have hm : m < len := by have := hj.out; omega
      obtain ⟨fn, tmps, assign, body, hy, hR⟩ := hY _ k wr hJs (by simpa using hlt)
      have e1 : len - 1 - k = m := by have := hj.out; omega
      rw [e1] at hy
      have hcx : wr.cell? ⟨b, off + m, none⟩ = some (.int .u32 (dgv zs m)) := (hnx.1.cell (p := ⟨b, off + m, none⟩) hb).trans (hc m hm)
      have HJ := Lib.hid hj
      have HE := Lib.hid e1
      clear hj e1
      have p0 : (0 : Int) ≤ (m : Int) := by omega
      gi_wp2
      refine hR.mono ?_
      rintro e W3 (⟨rfl, hJ3, hk3⟩ | ⟨rfl, hJx3⟩)
      · gi_wp2
        go_roundw
        case rel => exact ⟨k + 1, _, by omega, rfl, by have := HJ.out.out; unfold Hid; omega, by rw [List.range_succ]; exact hJ3, hnx.trans hk3⟩
        case measure => first | (simp [intOf]; done) | (simp [intOf]; omega)
      · gi_wp2
        refine bodyPost_ret (results_none rfl _ _ _) rfl ?_
        exact ⟨⟨_, rfl⟩, .inr ⟨_, ⟨k + 1, by omega, List.range_succ.symm⟩, hJx3⟩⟩
    · obtain rfl : k = len := by omega
      obtain rfl : j = -1 := by have := hj.out; omega
      clear hj
      gi_wp2
      go_end0
      exact ⟨⟨_, rfl⟩, .inl ⟨_, rfl, hJs⟩⟩

set_option maxRecDepth 100000 in
set_option maxHeartbeats 1000000 in
/-- .. where there is no element: no round. -/
theorem backN0_in (F : Fence) (n : Nat) (hF : F.fn 43) (hro : F.round = none) (l Bs cap : Nat) (A : Option Addr) (J : List Nat → World → Prop) (W : World) (hBs : W.cell? ⟨Bs, 0, none⟩ = some (.slice A 0 cap)) (h0 : J [] W) :
    CallsIn F n Try.prog 43 #[.func (.yield l) #[] #[], .pointer (some ⟨Bs, 0, none⟩)] W fun e W' => (∃ v, e = .returned v) ∧ J [] W' := by
  refine callsIn_of_wp Try.func43 rfl hF ?_ hro
  simp only [Try.ntmps43, List.size_toArray, List.length_cons, List.length_nil, Nat.reduceAdd, Nat.reduceSub, Array.replicate_succ, Array.replicate_zero, List.push_toArray, List.append_toArray, List.nil_append, List.cons_append]
  gi_wp2
  gi_loopw [3] (fun i wr => i = .int .i64 (-1) ∧ J [] wr) (fun _ _ => 0)
  case atStart => exact ⟨rfl, h0⟩
  case round =>
    obtain ⟨rfl, hJs⟩ := hrel
    gi_wp2
    go_end0
    exact ⟨⟨_, rfl⟩, hJs⟩

set_option maxHeartbeats 1000000 in
/-- slices.Backward(s): the slice is boxed; the function value captures the box. -/
theorem backN_in (F : Fence) (n : Nat) (hF : F.fn 37) (hro : F.round = none) (a : Option Addr) (len cap : Nat) (w : World) :
    CallsIn F n Try.prog 37 #[.slice a len cap] w fun e w' => e = .returned (.func (.func 43) #[] #[.pointer (some ⟨w.heap.size, 0, none⟩)]) ∧ w' = w.alloc (.cells #[.slice a len cap] 23) := by
  refine callsIn_of_wp Try.func37 rfl hF ?_ hro
  simp only [Try.ntmps37, List.size_toArray, List.length_cons, List.length_nil, Nat.reduceAdd, Nat.reduceSub, Array.replicate_succ, Array.replicate_zero, List.push_toArray, List.append_toArray, List.nil_append, List.cons_append]
  gi_wp2
  go_ret
  exact ⟨rfl, rfl⟩

/-- What slices.Backward(s) hands back gives the elements' numbers from the last down: all, or the first k. -/
theorem backN_stops (F : Fence) (n : Nat) (hF : F.fn 43) (hro : F.round = none) (hn : 1 ≤ n) (Bs n₀ : Nat) (A : Option Addr) (cap : Nat) (zs : List Int) (hreach : zs.length ≤ 35184372088832) (w : World) (hBs : Bs < w.heap.size) (hn₀ : n₀ ≤ w.heap.size)
    (hc : w.cell? ⟨Bs, 0, none⟩ = some (.slice A zs.length cap)) (hI : IntsN n₀ w A zs) :
    SeqStopsK F n Try.prog 43 #[.pointer (some ⟨Bs, 0, none⟩)] (fun x : Nat => #[Value.int .i64 ((zs.length - 1 - x : Nat) : Int), Value.int .u32 (dgv zs (zs.length - 1 - x))]) (KeepB n₀ Bs) (fun ys => ys = List.range zs.length)
      (fun pre => ∃ k, k ≤ zs.length ∧ pre = List.range k) zs.length w := fun l J Jx W hW _ _ hY h0 => by
  have hc' := (hW.cell (p := ⟨Bs, 0, none⟩) hBs).trans hc
  by_cases h : zs.length = 0
  · rw [h] at hc'
    exact (backN0_in F n hF hro l Bs cap A J W hc' h0).mono fun e W' ⟨he, hj⟩ => ⟨he, .inl ⟨_, by rw [h]; rfl, hj⟩⟩
  · obtain ⟨b, off, rfl, hb, hcs⟩ := (hI.below (hW.mono hn₀)) h
    exact backN1_in F n hF hro hn l Bs n₀ b off zs.length cap zs hreach hb J Jx hY W hc' hcs h0
end Go.Proofs.Ytcljdpaniinhmaa.L
