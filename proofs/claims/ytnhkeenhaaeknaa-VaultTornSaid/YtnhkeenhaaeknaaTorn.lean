/- The walk of VaultTorn: it returns true, and what lay in memory before the call lies there as it lay. -/
import Derived.Test.YtnhkeenhaaeknaaC
namespace Go.Proofs.Ytnhkeenhaaeknaa
open Go.RowKit
section
variable {w : World}

/-- A slice of ints: nil, or cells. -/
def IntsAt (w : World) (a : Option Addr) (len : Nat) (zs : List Int) : Prop := ∀ j, j < len → ∃ x, a = some x ∧ w.cell? (x.add j) = some (.int .i64 (zs.getD j 0))

theorem IntsAt.below {a : Option Addr} {len : Nat} {zs : List Int} {w' : World} (h : IntsAt w a len zs) (hb : Below w.heap.size w w') : IntsAt w' a len zs := by
  intro j hj
  obtain ⟨x, hx, hc⟩ := h j hj
  exact ⟨x, hx, (hb.cell (World.block_lt_of_cell? _ _ hc)).trans hc⟩

set_option maxHeartbeats 2000000 in
theorem torn_out {i n : Int} {d : Bool} {a : Option Addr} {len cap : Nat} (h : i < 0 ∨ 31 < i ∨ n < 0 ∨ 281474976710656 < n ∨ 50 < len) :
    Calls Try.prog 5 #[.int .i64 i, .int .i64 n, .bool d, .slice a len cap] w fun e w' => e = .returned (.bool true) ∧ Below w.heap.size w w' := by
  have hmk := make_32
  by_cases h1 : i < 0
  all_goals try (by_cases h2 : 31 < i)
  all_goals try (by_cases h3 : n < 0)
  all_goals try (by_cases h4 : 281474976710656 < n)
  all_goals try (have h5 : 50 < len := by omega)
  all_goals
    clear h
    go_enter Try.func5, Try.ntmps5
    go_wp2_with (fail)
    refine (anchor_calls _).mono ?_
    rintro e w1 ⟨rfl, hb⟩
    have HB := Lib.hid hb
    clear hb
    go_wp2_with (fail)
    refine (new_calls (bs := List.replicate 32 0) true (by simp) (zeros_at w1 5)).mono ?_
    rintro e w2 ⟨b, g, cap, rfl, hs, hb⟩
    have HB2 := Lib.hid (HB.out.trans (((Below.refl w1.heap.size w1).alloc (Nat.le_refl _) _).trans (hb.mono (by simp)) |>.mono HB.out.size))
    clear hb hs
    go_wp2_with (fail)
    go_ret
    exact ⟨rfl, HB2.out⟩

theorem raised_down {s : St} (h : s.dw = true) (i n : Int) : s.raise i n = (42, s) := by simp [St.raise, h]
theorem locked_down {s : St} (h : s.dw = true) (on : Bool) : s.lock on = (42, s) := by simp [St.lock, h]

/-- Behind the power's return the change is done. -/
theorem boot_raise {s : St} {i : Nat} {n : Int} (hi : i ≤ 31) (hn0 : 0 ≤ n) (hn : n ≤ 281474976710656) (hx : s.ix i ≤ n) : s.boot.raise i n = (0, ⟨s.lk, putIx s.ix i n, -1, s.dn, false, s.ch + 1⟩) := by
  have h1 : ¬ ((i : Int) < 0 ∨ 32 ≤ (i : Int) ∨ n < 0 ∨ 281474976710656 < n) := by omega
  simp only [St.raise, St.boot, Bool.false_eq_true, if_false, if_neg h1, Int.toNat_natCast]
  simp [St.change]
  exact hx

set_option maxHeartbeats 4000000 in
theorem torn_walk (i : Nat) (hi : i ≤ 31) (n : Int) (hn0 : 0 ≤ n) (hn : n ≤ 281474976710656) (d : Bool) (a : Option Addr) (len cap : Nat) (hlen : len ≤ 50) (zs : List Int) (hz : IntsAt w a len zs)
    (s1 : St) (wt : Int) (hwt : wt = if d then n else 0) (h1 : ((St.new true).arm 0 d).raise i n = (42, s1)) (hd : s1.dw = true) (hk : s1.lk = true) (hx : s1.ix i = wt) (hc0 : 0 ≤ s1.ch) (hc1 : s1.ch ≤ 1) (hlo : -1 ≤ s1.lf) (hhi : s1.lf ≤ 0) :
    Calls Try.prog 5 #[.int .i64 i, .int .i64 n, .bool d, .slice a len cap] w fun e w' => e = .returned (.bool true) ∧ Below w.heap.size w w' := by
  have hmk := make_32
  have Hz := Lib.hid hz
  have H1 := Lib.hid h1
  have Hd := Lib.hid hd
  have Hk := Lib.hid hk
  have Hx := Lib.hid hx
  have Hw := Lib.hid hwt
  clear hz h1 hd hk hx hwt
  go_enter Try.func5, Try.ntmps5
  go_wp2_with (fail)
  refine (anchor_calls _).mono ?_
  rintro e w1 ⟨rfl, hb⟩
  have HB := Lib.hid hb
  clear hb
  go_wp2_with (fail)
  refine (new_calls (bs := List.replicate 32 0) true (by simp) (zeros_at w1 5)).mono ?_
  rintro e w2 ⟨b, g, cp, rfl, hs, hb⟩
  have HB2 := Lib.hid (HB.out.trans (((Below.refl w1.heap.size w1).alloc (Nat.le_refl _) _).trans (hb.mono (by simp)) |>.mono HB.out.size))
  have hlt := hs.base_lt
  have hsz := HB.out.size
  simp only [World.size_alloc] at hlt
  have HL := Lib.hid (show w.heap.size ≤ b by omega)
  obtain ⟨base, hs1⟩ : ∃ base, Safe base w2 b g cp (List.replicate 32 0) (St.new true) := ⟨_, hs⟩
  have HS := Lib.hid hs1
  clear hb hs hs1 hlt hsz HB
  go_wp2_with (fail)
  refine (armed_calls HS.out 0 d).mono ?_
  rintro e w3 ⟨rfl, hs, hg⟩
  have HB3 := Lib.hid (HB2.out.grown hg HB2.out.size (fun k e => by cases e; exact HL.out))
  have HS3 := Lib.hid hs
  clear hs hg HS HB2
  go_wp2_with (fail)
  refine (raise_calls HS3.out ⟨by simp [St.arm], by simp [St.arm], by simp [St.arm, St.new], by simp [St.arm, St.new]⟩ i n).mono ?_
  rw [H1.out]
  rintro e w4 ⟨rfl, hs, hg⟩
  have HB4 := Lib.hid (HB3.out.grown hg HB3.out.size (fun k e => by cases e; exact HL.out))
  have HS4 := Lib.hid hs
  clear hs hg HS3 HB3
  go_wp2_with (fail)
  refine (down_calls HS4.out.at_).mono ?_
  rw [Hd.out]
  rintro e w5 ⟨rfl, rfl⟩
  cases d
  all_goals
    go_wp2_with (fail)
    go_loopw [76] (fun v wr => ∃ k : Nat, k ≤ len ∧ v = .int .i64 k ∧ Safe base wr b g cp (List.replicate 32 0) s1 ∧ Below w.heap.size w wr) (fun v _ => len - (intOf v).toNat)
    case atStart => exact ⟨0, by omega, rfl, HS4.out, HB4.out⟩
    case round =>
      obtain ⟨k, hkl, rfl, hs, hb⟩ := hrel
      have Hs := Lib.hid hs
      have Hb := Lib.hid hb
      clear hs hb HS4 HB4
      by_cases hlt : k < len
      · obtain ⟨x, rfl, hc⟩ := (Hz.out.below Hb.out) k hlt
        simp only [List.getD_eq_getElem?_getD] at hc
        obtain ⟨m, hm⟩ : ∃ m, zs[k]?.getD 0 = m := ⟨_, rfl⟩
        rw [hm] at hc
        clear hm
        go_wp2_with (fail)
        refine (raise_calls Hs.out ⟨hlo, by omega, hc0, by omega⟩ i m).mono ?_
        rw [raised_down Hd.out]
        rintro e w5 ⟨rfl, hs, hg⟩
        have HB5 := Lib.hid (Hb.out.grown hg Hb.out.size (fun k e => by cases e; exact HL.out))
        have HS5 := Lib.hid hs
        clear hs hg Hs Hb hc
        go_wp2_with (fail)
        refine (lock_calls HS5.out ⟨hlo, by omega, hc0, by omega⟩ false).mono ?_
        rw [locked_down Hd.out]
        rintro e w6 ⟨rfl, hs, hg⟩
        have HB6 := Lib.hid (HB5.out.grown hg HB5.out.size (fun k e => by cases e; exact HL.out))
        have HS6 := Lib.hid hs
        clear hs hg HS5 HB5
        go_wp2_with (fail)
        go_roundw
        case rel => exact ⟨k + 1, by omega, by go_num, HS6.out, HB6.out⟩
        case measure => simp [intOf]; omega
      · go_wp2_with (fail)
        refine (index_good Hs.out.at_ i (by omega)).mono ?_
        rw [Hx.out, Hw.out]
        rintro e w5 ⟨rfl, rfl⟩
        go_wp2_with (fail)
        refine (booted_calls Hs.out).mono ?_
        rintro e w6 ⟨rfl, hs, hg⟩
        have HB6 := Lib.hid (Hb.out.grown hg Hb.out.size (fun k e => by cases e; exact HL.out))
        have HS6 := Lib.hid hs
        clear hs hg Hs Hb
        go_wp2_with (fail)
        refine (raise_calls HS6.out ⟨by simp [St.boot], by simp [St.boot], hc0, by show s1.ch ≤ 1000000; omega⟩ i n).mono ?_
        rw [boot_raise hi hn0 hn (show s1.ix i ≤ n by rw [Hx.out, Hw.out]; simp; try omega)]
        rintro e w7 ⟨rfl, hs, hg⟩
        have HB7 := Lib.hid (HB6.out.grown hg HB6.out.size (fun k e => by cases e; exact HL.out))
        have HS7 := Lib.hid hs
        clear hs hg HS6 HB6
        go_wp2_with (fail)
        refine (index_good HS7.out.at_ i (by omega)).mono ?_
        rintro e w8 ⟨rfl, rfl⟩
        go_wp2_with (fail)
        refine (locked_calls HS7.out.at_).mono ?_
        rintro e w8 ⟨rfl, rfl⟩
        go_wp2_with (fail)
        go_ret
        exact ⟨by simp [putIx], HB7.out⟩
end
end Go.Proofs.Ytnhkeenhaaeknaa
