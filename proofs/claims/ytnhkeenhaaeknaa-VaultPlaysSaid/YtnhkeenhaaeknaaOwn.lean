/- The walk of VaultOwn: it returns true, and what lay in memory before the call lies there as it lay. -/
import Derived.Test.YtnhkeenhaaeknaaC
import Derived.Deep.RegionWith
namespace Go.Proofs.Ytnhkeenhaaeknaa
open Go.RowKit
section
variable {w : World} {b : Nat} {rv : Value} {lk : Bool} {ix : Nat → Int} {lf : Int} {dn dw : Bool} {ch : Int}

theorem string_of_bytes {a : Addr} {n c : Nat} {bs : List Int} (hn : bs.length = n) (h : BytesAt w a bs) :
    (convert 22 9 (.slice (some a) n c)).run Try.prog w = .ok (.string (strOfNums bs)) w := by
  have hl : (loadCells a n).run Try.prog w = .ok (bs.map (Value.int .u8)).toArray w := by
    have := run_loadCells_list (P := Try.prog) w a (bs.map (Value.int .u8)) h.news
    simpa [hn] using this
  rw [run_convert_bytes_string w 22 9 5 _ n c Try.underlying22 Try.underlying5 Try.underlying9, run_bytesToString w a n c bs hl, foldl_push_bytes]
  simp [strOfNums, ByteArray.empty, ByteArray.emptyWithCapacity]
  rfl

theorem BytesAt.below {a : Addr} {bs : List Int} {w' : World} (h : BytesAt w a bs) (hb : Below w.heap.size w w') : BytesAt w' a bs := by
  intro j hj
  have hc := h j hj
  exact (hb.cell (World.block_lt_of_cell? _ _ hc)).trans hc

theorem own_nil (s : Option Addr) (n c : Nat) (hn : ((n : Int) != 32) = true) :
    Calls Try.prog 3 #[.slice s n c] w fun e w' => e = .returned (.bool true) ∧ Below w.heap.size w w' := by
  go_enter Try.func3, Try.ntmps3
  go_wp2_with (go_at_call 7; refine (anchor_calls _).mono ?_; rintro e w1 ⟨rfl, hb⟩; have HB := Lib.hid hb; clear hb)
  go_ret
  exact ⟨rfl, HB.out⟩

/-- A row of 32 bytes in block g, whatever they are. -/
def SomeBytes (w : World) (base g cap : Nat) : Prop := ∃ ys : List Int, ys.length = 32 ∧ w.ownsRow base 5 1 (.slice (some ⟨g, 0, none⟩) 32 cap) 32 (ys.map (Value.int .u8))

theorem SomeBytes.cell {base g cap : Nat} (h : SomeBytes w base g cap) (j : Nat) (hj : j < 32) : ∃ y : Int, w.cell? ⟨g, j, none⟩ = some (.int .u8 y) := by
  obtain ⟨ys, hl, ho⟩ := h
  have h1 := ho.cellAt j (by omega)
  exact ⟨ys[j]'(by omega), by rw [h1]; simp [show j < ys.length by omega]⟩

theorem SomeBytes.frozen {base g cap : Nat} (h : SomeBytes w base g cap) (j : Nat) : w.frozen? ⟨g, j, none⟩ = false := by
  obtain ⟨ys, hl, ho⟩ := h
  exact ho.frozenAt j

theorem SomeBytes.stored {base g cap : Nat} (h : SomeBytes w base g cap) (j : Nat) (y : Int) : SomeBytes (w.setCell ⟨g, j, none⟩ (.int .u8 y)) base g cap ∧ w.grownBy (w.setCell ⟨g, j, none⟩ (.int .u8 y)) (some g) := by
  obtain ⟨ys, hl, ho⟩ := h
  have h1 := ho.stored j (.int .u8 y)
  refine ⟨⟨ys.set j y, by simpa using hl, ?_⟩, h1.2⟩
  have := h1.1
  rwa [← List.map_set] at this

theorem SomeBytes.lt {base g cap : Nat} (h : SomeBytes w base g cap) : base ≤ g ∧ g < w.heap.size := by
  obtain ⟨ys, hl, ho⟩ := h
  exact ho.lt g rfl

theorem ownsBytes {base g cap : Nat} {bs : List Int} (hn : bs.length = 32) (hown : w.ownsRow base 5 1 (.slice (some ⟨g, 0, none⟩) 32 cap) 32 (bs.map (Value.int .u8))) : BytesAt w ⟨g, 0, none⟩ bs := by
  intro j hj
  have h1 := hown.cellAt j (by omega)
  have h2 : (⟨g, 0, none⟩ : Addr).add j = ⟨g, j, none⟩ := by unfold Addr.add; split <;> simp_all
  rw [h2, h1]
  simp [List.getD_eq_getElem?_getD, List.getElem?_eq_getElem hj]

set_option maxHeartbeats 1000000 in
theorem own_calls {a : Addr} {c : Nat} {bs : List Int} (hn : bs.length = 32) (h : BytesAt w a bs) :
    Calls Try.prog 3 #[.slice (some a) 32 c] w fun e w' => e = .returned (.bool true) ∧ Below w.heap.size w w' := by
  obtain ⟨i0, hi, hz0, hz1, hz2⟩ := info_parts Try.info5
  have HA := Lib.hid h
  clear h
  go_enter Try.func3, Try.ntmps3
  go_wp2_with (fail)
  refine (anchor_calls _).mono ?_
  rintro e w1 ⟨rfl, hb⟩
  have HB := Lib.hid hb
  clear hb
  have HA1 := Lib.hid (HA.out.below HB.out)
  go_wp2_with (at_builtin; refine wpList_append_own _ rfl _ _ 22 rfl w1.heap.size 5 i0 (.int .u8 0) 1 1 Try.underlying22 hi hz0 hz1 hz2 rfl (by decide) _ _ _ rfl (World.ownsRow_made w1 #[] 0 (Nat.le_refl _) (by simp [maxLen]) (by simp)) a 32 c (bs.map (Value.int .u8)) rfl ?c1 ?c2 ?c3 ?c4 ?c5 ?c6 ?_)
  case c1 => rw [List.length_map, hn]
  case c2 =>
    intro j u hu
    have hc := HA1.out.news j u hu
    exact (World.cell?_alloc_lt _ _ _ (World.block_lt_of_cell? _ _ hc)).trans hc
  case c3 => exact oneCell_bytes bs
  case c4 => unfold maxLen; omega
  case c5 => omega
  case c6 => simp
  intro v' w2 hown hg hnn
  obtain ⟨g0, cap0, rfl⟩ : ∃ g cap, v' = .slice (some ⟨g, 0, none⟩) 32 cap := by
    rcases hown.2 with ⟨h1, _⟩ | ⟨g, cap, cur, h1, _⟩
    · exact absurd h1 hnn
    · exact ⟨g, cap, h1⟩
  clear hnn
  have hbb := below_of_grown hg (Nat.le_refl _)
  have HW := Lib.hid HB.out.size
  have HB2 := Lib.hid (HB.out.trans (hbb.mono HB.out.size))
  have HA2 := Lib.hid (HA1.out.below hbb)
  clear hg hbb HB HA1
  have HO := Lib.hid (show SomeBytes w2 w1.heap.size g0 cap0 from ⟨bs, hn, hown⟩)
  have hbo := ownsBytes hn hown
  have HBO := Lib.hid hbo
  clear hbo hown
  go_wp2_with (fail)
  refine (new_calls true hn HBO.out).mono ?_
  rintro e w3 ⟨b, g, cap, rfl, hs, hb⟩
  have HBb := Lib.hid hb
  have HS := Lib.hid hs
  have HB3 := Lib.hid (HB2.out.trans (hb.mono HB2.out.size))
  have HA3 := Lib.hid (HA2.out.below hb)
  clear hs hb
  have HG := Lib.hid (HO.out.lt)
  have hO3 := Lib.hid (show SomeBytes w3 w1.heap.size g0 cap0 by
    obtain ⟨ys, hl, ho⟩ := HO.out
    exact ⟨ys, hl, ho.kept (grown_of_below (show Below w2.heap.size w2 w3 from HBb.out) none) (.inr (by simp [Value.ownBlock]))⟩)
  go_wp2_with (fail)
  go_loopw [30] (fun i wr => ∃ k : Nat, k ≤ 32 ∧ i = .int .i64 k ∧ Safe w2.heap.size wr b g cap bs (St.new true) ∧ SomeBytes wr w1.heap.size g0 cap0 ∧ Below w.heap.size w wr) (fun i _ => 32 - (intOf i).toNat)
  case atStart => exact ⟨0, by omega, rfl, HS.out, hO3.out, HB3.out⟩
  case round =>
    obtain ⟨k, hk, rfl, hs, ho, hb⟩ := hrel
    clear HB2 HA2 HA3 HBO HS HB3 hO3 HO HBb
    by_cases hlt : k < 32
    · obtain ⟨y, hy⟩ := ho.cell k hlt
      have hf := ho.frozen k
      have Hs := Lib.hid hs
      have Ho := Lib.hid ho
      have Hb := Lib.hid hb
      clear hs ho hb
      go_wp2
      go_roundw
      case rel =>
        have hst := Ho.out.stored k (bits BinOp.xor IntKind.u8 y 255)
        have hg := HG.out
        have hbb := Hs.out.own.lt g rfl
        have hgb := Hs.out.lt
        have hww := HW.out
        exact ⟨k + 1, by omega, by go_num, Hs.out.kept hst.2 (by simp; omega) (by simp; omega), hst.1, Hb.out.setCell (p := ⟨g0, k, none⟩) (by show w.heap.size ≤ g0; omega) _⟩
      case measure => simp [intOf]; omega
    · obtain rfl : k = 32 := by omega
      have Hs := Lib.hid hs
      have Hb := Lib.hid hb
      clear hs ho hb HG
      go_wp2_with (fail)
      refine (root_calls Hs.out hn).mono ?_
      rintro e w4 ⟨g1, cap1, rfl, hown, hb⟩
      obtain ⟨wo, rfl⟩ : ∃ wo : World, wo = wr := ⟨_, rfl⟩
      have HS4 := Lib.hid (Hs.out.below hb)
      have HB4 := Lib.hid (Hb.out.trans (hb.mono Hb.out.size))
      have HO4 := Lib.hid (show SomeBytes w4 wo.heap.size g1 cap1 from ⟨bs, hn, hown⟩)
      have HG := Lib.hid (hown.lt g1 rfl)
      have HL := Lib.hid (Hs.out.at_.lt)
      have HBW := Lib.hid Hb.out.size
      clear hown hb Hs Hb
      go_wp2_with (fail)
      go_loopw [44] (fun i wr => ∃ k : Nat, k ≤ 32 ∧ i = .int .i64 k ∧ Safe w2.heap.size wr b g cap bs (St.new true) ∧ SomeBytes wr wo.heap.size g1 cap1 ∧ Below w.heap.size w wr) (fun i _ => 32 - (intOf i).toNat)
      case atStart => exact ⟨0, by omega, rfl, HS4.out, HO4.out, HB4.out⟩
      case round =>
        obtain ⟨k, hk, rfl, hs, ho, hb⟩ := hrel
        clear HS4 HB4 HO4
        by_cases hlt : k < 32
        · obtain ⟨y, hy⟩ := ho.cell k hlt
          have hf := ho.frozen k
          have Hs := Lib.hid hs
          have Ho := Lib.hid ho
          have Hb := Lib.hid hb
          clear hs ho hb
          go_wp2
          go_roundw
          case rel =>
            have hst := Ho.out.stored k (bits BinOp.xor IntKind.u8 y 255)
            have hg := HG.out
            have hl := HL.out
            have hgb := Hs.out.lt
            have hww := HBW.out
            exact ⟨k + 1, by omega, by go_num, Hs.out.kept hst.2 (by simp; omega) (by simp; omega), hst.1, Hb.out.setCell (p := ⟨g1, k, none⟩) (by show w.heap.size ≤ g1; omega) _⟩
          case measure => simp [intOf]; omega
        · obtain rfl : k = 32 := by omega
          have Hs := Lib.hid hs
          have Hb := Lib.hid hb
          clear hs ho hb HG HL HBW HW
          go_wp2_with (fail)
          have HA5 := Lib.hid (HA.out.below Hb.out)
          have HSd := Lib.hid (show Safe w2.heap.size wr.drew b g cap bs (St.new true) from ⟨Hs.out.at_.drew, Hs.out.own.drew, Hs.out.lt⟩)
          have HBd := Lib.hid (Hb.out.drew)
          have HAd := Lib.hid (show BytesAt wr.drew a bs from HA5.out)
          have hcv := string_of_bytes (c := c) hn HAd.out
          clear Hs Hb HA5
          go_region_with ((go_at_call 9; refine (root_calls HSd.out hn).mono ?_; rintro e w5 ⟨g5, cap5, rfl, hown, hb⟩; have HB5 := Lib.hid (HBd.out.trans (hb.mono HBd.out.size)); have hcv5 := string_of_bytes (c := c) hn (HAd.out.below hb); have hbo := ownsBytes hn hown; have hcr := string_of_bytes (c := cap5) hn hbo; clear hbo hown hb))
          all_goals go_wp2
          all_goals go_ret
          all_goals exact ⟨rfl, HB5.out⟩
end
end Go.Proofs.Ytnhkeenhaaeknaa
