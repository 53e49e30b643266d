/- The contracts of slices.Clone at bytes, of the vault's New and Root. Conditions: the bytes lie in memory as listed; a root has 32. -/
import Derived.Test.YtnhkeenhaaeknaaB
import Derived.WalkSpells
import Derived.Laws.BytesArg
namespace Go.Proofs.Ytnhkeenhaaeknaa
open Go.RowKit
section
variable {w : World} {b : Nat} {rv : Value} {lk : Bool} {ix : Nat → Int} {lf : Int} {dn dw : Bool} {ch : Int}

/-- The bytes bs lie from a on. -/
def BytesAt (w : World) (a : Addr) (bs : List Int) : Prop := ∀ j, j < bs.length → w.cell? (a.add j) = some (.int .u8 (bs.getD j 0))

theorem BytesAt.news {a : Addr} {bs : List Int} (h : BytesAt w a bs) : ∀ j u, (bs.map (Value.int .u8))[j]? = some u → w.cell? (a.add j) = some u := by
  intro j u hu
  have hj : j < bs.length := by
    rcases Nat.lt_or_ge j bs.length with h' | h'
    · exact h'
    · rw [List.getElem?_eq_none (by simpa using h')] at hu; cases hu
  rw [h j hj]
  rw [List.getElem?_map, List.getElem?_eq_getElem hj] at hu
  simp at hu
  subst hu
  simp [List.getD_eq_getElem?_getD, List.getElem?_eq_getElem hj]

theorem oneCell_bytes (bs : List Int) : ∀ u ∈ bs.map (Value.int .u8), u.oneCell' = true := by
  intro u hu
  obtain ⟨x, _, rfl⟩ := List.mem_map.1 hu
  rfl

theorem Try.info5 : (Try.prog.info? 5).map (fun i => (i.zero, i.size, i.bytes)) = some (some (.int .u8 0), 1, 1) := by kernel_rfl

theorem below_of_grown {w w' : World} {k : Nat} (hg : (w.alloc (.cells #[] 5)).grownBy w' (some k)) (hk : w.heap.size ≤ k) : Below w.heap.size w w' :=
  ((Below.refl _ _).alloc (Nat.le_refl _) _).grown hg (by simp) (fun j e => by cases e; exact hk)

theorem clone_calls {a : Addr} {n c : Nat} {bs : List Int} (hn : bs.length = n) (hmax : n ≤ 1000) (h : BytesAt w a bs) :
    Calls Try.prog 18 #[.slice (some a) n c] w fun e w' => ∃ g cap, e = .returned (.slice (some ⟨g, 0, none⟩) n cap) ∧ w'.ownsRow w.heap.size 5 1 (.slice (some ⟨g, 0, none⟩) n cap) n (bs.map (Value.int .u8)) ∧ Below w.heap.size w w' := by
  obtain ⟨i0, hi, hz0, hz1, hz2⟩ := info_parts Try.info5
  have hnil := fun (W : World) (A : Option Addr) (l c : Nat) => Lib.run_eql_slice_nil (P := Try.prog) W 22 5 A l c 0 0 Try.underlying22
  go_enter Try.func18, Try.ntmps18
  go_wp2_with (at_builtin; refine wpList_append_own _ rfl _ _ 22 rfl w.heap.size 5 i0 (.int .u8 0) 1 1 Try.underlying22 hi hz0 hz1 hz2 rfl (by decide) _ _ _ rfl (World.ownsRow_made w #[] 0 (Nat.le_refl _) (by simp [maxLen]) (by simp)) a n c (bs.map (Value.int .u8)) rfl ?c1 ?c2 ?c3 ?c4 ?c5 ?c6 ?_)
  case c1 => rw [List.length_map, hn, Nat.mul_one]
  case c2 =>
    intro j u hu
    have hc := h.news j u hu
    exact (World.cell?_alloc_lt _ _ _ (World.block_lt_of_cell? _ _ hc)).trans hc
  case c3 => exact oneCell_bytes bs
  case c4 => unfold maxLen; omega
  case c5 => omega
  case c6 => simp
  intro v' w1 hown hg hnn
  obtain ⟨g, cap, rfl⟩ : ∃ g cap, v' = .slice (some ⟨g, 0, none⟩) n cap := by
    rcases hown.2 with ⟨h1, _⟩ | ⟨g, cap, cur, h1, _⟩
    · exact absurd h1 hnn
    · exact ⟨g, cap, h1⟩
  clear hnn
  have H := Lib.hid (below_of_grown hg (Nat.le_refl _))
  clear hg
  have H2 := Lib.hid hown
  clear hown
  go_wp2
  go_ret
  exact ⟨g, cap, rfl, H2.out, H.out⟩

theorem new_bad {s : Option Addr} {n c : Nat} (on : Bool) (hn : ((n : Int) != 32) = true) :
    Calls Try.prog 8 #[.slice s n c, .bool on] w fun e w' => e = .returned (.tuple #[.pointer none, .int .i64 12]) ∧ w = w' := by
  go_enter Try.func8, Try.ntmps8
  go_wp2
  go_ret2
  exact ⟨rfl, rfl⟩

theorem vault_new (w1 : World) (v : Value) (on : Bool) :
    VaultAt (w1.alloc (.cells #[v, .bool on, .int .i64 0, .int .i64 0, .int .i64 0, .int .i64 0, .int .i64 0, .int .i64 0, .int .i64 0, .int .i64 0, .int .i64 0, .int .i64 0, .int .i64 0, .int .i64 0, .int .i64 0, .int .i64 0, .int .i64 0, .int .i64 0, .int .i64 0, .int .i64 0, .int .i64 0, .int .i64 0, .int .i64 0, .int .i64 0, .int .i64 0, .int .i64 0, .int .i64 0, .int .i64 0, .int .i64 0, .int .i64 0, .int .i64 0, .int .i64 0, .int .i64 0, .int .i64 0, .int .i64 (-1), .bool false, .bool false, .int .i64 0] 46)) w1.heap.size v on (fun _ => 0) (-1) false false 0 := by
  refine ⟨by simp, ?_, ?_, ?_, ?_, ?_, ?_, ?_, fun o => World.frozen?_alloc_new _ _ _ _⟩
  · rw [World.cell?_alloc_new]; rfl
  · rw [World.cell?_alloc_new]; rfl
  · intro i hi
    rw [World.cell?_alloc_new]
    iterate 32 (rcases i with _ | i; · rfl)
    omega
  · rw [World.cell?_alloc_new]; rfl
  · rw [World.cell?_alloc_new]; rfl
  · rw [World.cell?_alloc_new]; rfl
  · rw [World.cell?_alloc_new]; rfl

/-- What a vault holds but for its root. -/
structure St where
  lk : Bool
  ix : Nat → Int
  lf : Int
  dn : Bool
  dw : Bool
  ch : Int

def St.new (lk : Bool) : St := ⟨lk, fun _ => 0, -1, false, false, 0⟩

/-- A vault whose root lies in a row of its own, from base on. -/
structure Safe (base : Nat) (w : World) (b g cap : Nat) (bs : List Int) (s : St) : Prop where
  at_ : VaultAt w b (.slice (some ⟨g, 0, none⟩) 32 cap) s.lk s.ix s.lf s.dn s.dw s.ch
  own : w.ownsRow base 5 1 (.slice (some ⟨g, 0, none⟩) 32 cap) 32 (bs.map (Value.int .u8))
  lt : g < b

theorem Safe.base_lt {base b g cap : Nat} {bs : List Int} {s : St} (h : Safe base w b g cap bs s) : base < b := by
  have := h.own.lt g rfl
  have := h.lt
  omega

theorem Safe.bytes {base b g cap : Nat} {bs : List Int} {s : St} (h : Safe base w b g cap bs s) (hn : bs.length = 32) : BytesAt w ⟨g, 0, none⟩ bs := by
  intro j hj
  have h1 := h.own.cellAt j (by omega)
  have h2 : (⟨g, 0, none⟩ : Addr).add j = ⟨g, j, none⟩ := by unfold Addr.add; split <;> simp_all
  rw [h2, h1]
  simp [List.getD_eq_getElem?_getD, List.getElem?_eq_getElem hj]

/-- What is done to the vault's own block alone. -/
theorem Safe.turned {base b g cap : Nat} {bs : List Int} {s s' : St} {w' : World} (h : Safe base w b g cap bs s) (hv : VaultAt w' b (.slice (some ⟨g, 0, none⟩) 32 cap) s'.lk s'.ix s'.lf s'.dn s'.dw s'.ch) (hg : w.grownBy w' (some b)) : Safe base w' b g cap bs s' :=
  ⟨hv, h.own.kept hg (.inr (by simp [Value.ownBlock]; have := h.lt; omega)), h.lt⟩

/-- What is done beside it. -/
theorem Safe.kept {base b g cap : Nat} {bs : List Int} {s : St} {w' : World} {row : Option Nat} (h : Safe base w b g cap bs s) (hg : w.grownBy w' row) (h1 : some b ≠ row) (h2 : some g ≠ row) : Safe base w' b g cap bs s :=
  ⟨h.at_.kept hg h1, h.own.kept hg (.inr (by simpa [Value.ownBlock] using h2)), h.lt⟩

theorem Safe.alloc {base b g cap : Nat} {bs : List Int} {s : St} (h : Safe base w b g cap bs s) (o : Obj) : Safe base (w.alloc o) b g cap bs s :=
  h.kept (World.grownBy_alloc w o none) (by simp) (by simp)

theorem grown_of_below {w' : World} (h : Below w.heap.size w w') (row : Option Nat) : w.grownBy w' row :=
  ⟨h.os, h.tape, h.output, h.size, fun k hk _ => h.block k hk⟩

theorem Safe.below {base b g cap : Nat} {bs : List Int} {s : St} {w' : World} (h : Safe base w b g cap bs s) (hg : Below w.heap.size w w') : Safe base w' b g cap bs s :=
  h.kept (grown_of_below hg none) (by simp) (by simp)

theorem new_calls {a : Addr} {c : Nat} {bs : List Int} (on : Bool) (hn : bs.length = 32) (h : BytesAt w a bs) :
    Calls Try.prog 8 #[.slice (some a) 32 c, .bool on] w fun e w' => ∃ b g cap, e = .returned (.tuple #[.pointer (some ⟨b, 0, none⟩), .int .i64 0]) ∧ Safe w.heap.size w' b g cap bs (St.new on) ∧ Below w.heap.size w w' := by
  go_enter Try.func8, Try.ntmps8
  go_wp2_with (go_at_call 18; refine (clone_calls hn (by omega) h).mono ?_; rintro e w1 ⟨g, cap, rfl, hown, hb⟩)
  go_ret2
  exact ⟨_, g, cap, rfl, ⟨vault_new _ _ _, hown.alloc _, (hown.lt g rfl).2⟩, hb.alloc hb.size _⟩

theorem root_calls {base b g cap : Nat} {bs : List Int} {s : St} (h : Safe base w b g cap bs s) (hn : bs.length = 32) :
    Calls Try.prog 9 #[.pointer (some ⟨b, 0, none⟩)] w fun e w' => ∃ g' cap', e = .returned (.slice (some ⟨g', 0, none⟩) 32 cap') ∧ w'.ownsRow w.heap.size 5 1 (.slice (some ⟨g', 0, none⟩) 32 cap') 32 (bs.map (Value.int .u8)) ∧ Below w.heap.size w w' := by
  have h1 := h.at_.root
  have hb := Lib.hid (h.bytes hn)
  go_enter Try.func9, Try.ntmps9
  go_wp2_with (go_at_call 18; refine (clone_calls hn (by omega) hb.out).mono ?_; rintro e w1 ⟨g', cap', rfl, hown, hb⟩)
  go_ret
  exact ⟨g', cap', rfl, hown, hb⟩
end

/-! ### The vault as plain steps -/
/-- A change, or half of it. -/
def St.change (s : St) (act : St → St) : Int × St :=
  if s.lf = 0 then
    if s.dn then (42, act { s with lf := -1, dw := true, ch := s.ch + 1 })
    else (42, { s with dw := true })
  else (0, act { s with lf := if s.lf - 1 < -1 then -1 else s.lf - 1, ch := s.ch + 1 })

def St.lock (s : St) (on : Bool) : Int × St := if s.dw then (42, s) else s.change fun t => { t with lk := on }

def St.raise (s : St) (i n : Int) : Int × St :=
  if s.dw then (42, s)
  else if i < 0 ∨ 32 ≤ i ∨ n < 0 ∨ 281474976710656 < n then (13, s)
  else if n < s.ix i.toNat then (52, s)
  else s.change fun t => { t with ix := putIx t.ix i.toNat n }

def St.arm (s : St) (n : Int) (d : Bool) : St := { s with lf := if n < -1 then -1 else n, dn := d }
def St.boot (s : St) : St := { s with lf := -1, dw := false }

/-- The counters lie in their ranges. -/
structure St.Ok (s : St) : Prop where
  lo : -1 ≤ s.lf
  hi : s.lf ≤ 9223372036854775807
  ch0 : 0 ≤ s.ch
  ch1 : s.ch ≤ 1000000

section
variable {w : World} {base b g cap : Nat} {bs : List Int} {s : St}

theorem lock_calls (h : Safe base w b g cap bs s) (ok : s.Ok) (on : Bool) :
    Calls Try.prog 11 #[.pointer (some ⟨b, 0, none⟩), .bool on] w fun e w' => e = .returned (.int .i64 (s.lock on).1) ∧ Safe base w' b g cap bs (s.lock on).2 ∧ w.grownBy w' (some b) := by
  obtain ⟨lk, ix, lf, dn, dw, ch⟩ := s
  obtain ⟨o1, o2, o3, o4⟩ := ok
  have hv := h.at_
  dsimp only at o1 o2 o3 o4 hv
  cases dw with
  | true => exact (lock_down hv on).mono fun e w' ⟨he, hv', hg⟩ => ⟨he, h.turned hv' hg, hg⟩
  | false =>
    by_cases hl : lf = 0
    · subst hl
      cases dn with
      | true => exact (lock_done hv on o3 o4).mono fun e w' ⟨he, hv', hg⟩ => ⟨he, h.turned hv' hg, hg⟩
      | false => exact (lock_torn hv on).mono fun e w' ⟨he, hv', hg⟩ => ⟨he, h.turned hv' hg, hg⟩
    · have e : St.lock ⟨lk, ix, lf, dn, false, ch⟩ on = (0, ⟨on, ix, if lf - 1 < -1 then -1 else lf - 1, dn, false, ch + 1⟩) := by simp [St.lock, St.change, hl]
      rw [e]
      exact (lock_does hv on (by simpa using hl) o1 o2 o3 o4).mono fun e w' ⟨he, hv', hg⟩ => ⟨he, h.turned hv' hg, hg⟩

theorem raise_calls (h : Safe base w b g cap bs s) (ok : s.Ok) (i n : Int) :
    Calls Try.prog 10 #[.pointer (some ⟨b, 0, none⟩), .int .i64 i, .int .i64 n] w fun e w' => e = .returned (.int .i64 (s.raise i n).1) ∧ Safe base w' b g cap bs (s.raise i n).2 ∧ w.grownBy w' (some b) := by
  obtain ⟨lk, ix, lf, dn, dw, ch⟩ := s
  obtain ⟨o1, o2, o3, o4⟩ := ok
  have hv := h.at_
  dsimp only at o1 o2 o3 o4 hv
  cases dw with
  | true => exact (raise_down hv i n).mono fun e w' ⟨he, hv', hg⟩ => ⟨he, h.turned hv' hg, hg⟩
  | false =>
    by_cases hr : i < 0 ∨ 32 ≤ i ∨ n < 0 ∨ 281474976710656 < n
    · have e : St.raise ⟨lk, ix, lf, dn, false, ch⟩ i n = (13, ⟨lk, ix, lf, dn, false, ch⟩) := by simp [St.raise, hr]
      rw [e]
      exact (raise_range hv i n hr).mono fun e w' ⟨he, hv', hg⟩ => ⟨he, h.turned hv' hg, hg⟩
    · obtain ⟨k, rfl⟩ : ∃ k : Nat, i = k := ⟨i.toNat, by omega⟩
      by_cases hlt : n < ix k
      · have e : St.raise ⟨lk, ix, lf, dn, false, ch⟩ k n = (52, ⟨lk, ix, lf, dn, false, ch⟩) := by simp [St.raise, hr, hlt]
        rw [e]
        exact (raise_back hv k (by omega) n (by omega) (by omega) hlt).mono fun e w' ⟨he, hv', hg⟩ => ⟨he, h.turned hv' hg, hg⟩
      · have hge : ix k ≤ n := Int.not_lt.mp hlt
        by_cases hl : lf = 0
        · subst hl
          cases dn with
          | true =>
            have e : St.raise ⟨lk, ix, 0, true, false, ch⟩ k n = (42, ⟨lk, putIx ix k n, -1, true, true, ch + 1⟩) := by simp [St.raise, St.change, hr, hlt]
            rw [e]
            exact (raise_done hv k (by omega) n (by omega) (by omega) hge o3 o4).mono fun e w' ⟨he, hv', hg⟩ => ⟨he, h.turned hv' hg, hg⟩
          | false =>
            have e : St.raise ⟨lk, ix, 0, false, false, ch⟩ k n = (42, ⟨lk, ix, 0, false, true, ch⟩) := by simp [St.raise, St.change, hr, hlt]
            rw [e]
            exact (raise_torn hv k (by omega) n (by omega) (by omega) hge).mono fun e w' ⟨he, hv', hg⟩ => ⟨he, h.turned hv' hg, hg⟩
        · have e : St.raise ⟨lk, ix, lf, dn, false, ch⟩ k n = (0, ⟨lk, putIx ix k n, if lf - 1 < -1 then -1 else lf - 1, dn, false, ch + 1⟩) := by simp [St.raise, St.change, hr, hlt, hl]
          rw [e]
          exact (raise_does hv k (by omega) n (by omega) (by omega) hge (by simpa using hl) o1 o2 o3 o4).mono fun e w' ⟨he, hv', hg⟩ => ⟨he, h.turned hv' hg, hg⟩

theorem armed_calls (h : Safe base w b g cap bs s) (n : Int) (d : Bool) :
    Calls Try.prog 12 #[.pointer (some ⟨b, 0, none⟩), .int .i64 n, .bool d] w fun e w' => e = .returned (.tuple #[]) ∧ Safe base w' b g cap bs (s.arm n d) ∧ w.grownBy w' (some b) :=
  (arm_calls h.at_ n d).mono fun _ _ ⟨he, hv', hg⟩ => ⟨he, h.turned hv' hg, hg⟩

theorem booted_calls (h : Safe base w b g cap bs s) :
    Calls Try.prog 13 #[.pointer (some ⟨b, 0, none⟩)] w fun e w' => e = .returned (.tuple #[]) ∧ Safe base w' b g cap bs s.boot ∧ w.grownBy w' (some b) :=
  (boot_calls h.at_).mono fun _ _ ⟨he, hv', hg⟩ => ⟨he, h.turned hv' hg, hg⟩

/-! ### The document's example -/
theorem zeros_at (w : World) (t : TypeId) : BytesAt (w.alloc (.cells #[.int .u8 0, .int .u8 0, .int .u8 0, .int .u8 0, .int .u8 0, .int .u8 0, .int .u8 0, .int .u8 0, .int .u8 0, .int .u8 0, .int .u8 0, .int .u8 0, .int .u8 0, .int .u8 0, .int .u8 0, .int .u8 0, .int .u8 0, .int .u8 0, .int .u8 0, .int .u8 0, .int .u8 0, .int .u8 0, .int .u8 0, .int .u8 0, .int .u8 0, .int .u8 0, .int .u8 0, .int .u8 0, .int .u8 0, .int .u8 0, .int .u8 0, .int .u8 0] t)) ⟨w.heap.size, 0, none⟩ (List.replicate 32 0) := by
  intro j hj
  have h2 : (⟨w.heap.size, 0, none⟩ : Addr).add j = ⟨w.heap.size, j, none⟩ := by unfold Addr.add; split <;> simp_all
  rw [h2, World.cell?_alloc_new]
  simp only [List.length_replicate] at hj
  iterate 32 (rcases j with _ | j; · rfl)
  omega

theorem make_32 (w : World) : (Instr.makeSlice 22 (.int .i64 32) (.int .i64 32)).run Try.prog w = .ok (.slice (some ⟨w.heap.size, 0, none⟩) 32 32) (w.alloc (.cells #[.int .u8 0, .int .u8 0, .int .u8 0, .int .u8 0, .int .u8 0, .int .u8 0, .int .u8 0, .int .u8 0, .int .u8 0, .int .u8 0, .int .u8 0, .int .u8 0, .int .u8 0, .int .u8 0, .int .u8 0, .int .u8 0, .int .u8 0, .int .u8 0, .int .u8 0, .int .u8 0, .int .u8 0, .int .u8 0, .int .u8 0, .int .u8 0, .int .u8 0, .int .u8 0, .int .u8 0, .int .u8 0, .int .u8 0, .int .u8 0, .int .u8 0, .int .u8 0] 5)) := by kernel_rfl

theorem anchor_one : (St.new true).raise 3 5 = (0, ⟨true, putIx (fun _ => 0) 3 5, -1, false, false, 1⟩) := by simp [St.new, St.raise, St.change]
theorem anchor_two : St.raise ⟨true, putIx (fun _ => 0) 3 5, -1, false, false, 1⟩ 3 4 = (52, ⟨true, putIx (fun _ => 0) 3 5, -1, false, false, 1⟩) := by simp [St.raise, putIx]
theorem ok_new (on : Bool) : (St.new on).Ok := ⟨by simp [St.new], by simp [St.new], by simp [St.new], by simp [St.new]⟩

theorem anchor_calls (w : World) : Calls Try.prog 7 #[] w fun e w' => e = .returned (.bool true) ∧ Below w.heap.size w w' := by
  have hmk := make_32
  go_enter Try.func7, Try.ntmps7
  go_wp2_with (fail)
  refine (new_calls (bs := List.replicate 32 0) true (by simp) (zeros_at w 5)).mono ?_
  rintro e w1 ⟨b, g, cap, rfl, hs, hb⟩
  have HB := Lib.hid (((Below.refl w.heap.size w).alloc (Nat.le_refl _) _).trans (hb.mono (by simp)))
  have hlt := hs.base_lt
  simp only [World.size_alloc] at hlt
  have HS := Lib.hid hs
  clear hb hs
  go_wp2_with (fail)
  refine (raise_calls HS.out (ok_new true) 3 5).mono ?_
  rw [anchor_one]
  rintro e w2 ⟨rfl, hs, hg⟩
  have HB2 := Lib.hid (HB.out.grown hg HB.out.size (fun k e => by cases e; omega))
  have HS2 := Lib.hid hs
  clear hs hg HB HS
  go_wp2_with (fail)
  refine (raise_calls HS2.out ⟨by simp, by simp, by simp, by simp⟩ 3 4).mono ?_
  rw [anchor_two]
  rintro e w3 ⟨rfl, hs, hg⟩
  have HB := Lib.hid (HB2.out.grown hg HB2.out.size (fun k e => by cases e; omega))
  have HS := Lib.hid hs
  clear hs hg HB2 HS2
  go_wp2_with (fail)
  refine (locked_calls HS.out.at_).mono ?_
  rintro e w4 ⟨rfl, rfl⟩
  go_wp2_with (fail)
  go_ret
  exact ⟨rfl, HB.out⟩
end
end Go.Proofs.Ytnhkeenhaaeknaa
