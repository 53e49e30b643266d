/- The plain steps of a play (St.step) and what they do to the indexes; the walk of VaultRises: it returns true, and what lay in memory before the call lies there as it lay. -/
import Derived.Test.YtnhkeenhaaeknaaC
import Derived.Deep.CutBlock
import Derived.Deep.DeepCutAuto
namespace Go.Proofs.Ytnhkeenhaaeknaa
open Go.RowKit

/-- A step of a play. -/
structure Opn where
  kind : Int
  a : Int
  b : Int
  on : Bool

def St.step (s : St) (o : Opn) : St :=
  if o.kind = 1 then (s.raise o.a o.b).2 else if o.kind = 2 then (s.lock o.on).2 else if o.kind = 3 then s.arm o.a o.on else if o.kind = 4 then s.boot else s

/-- The counters lie in their ranges, k steps having been done. -/
structure St.OkAt (s : St) (k : Nat) : Prop where
  lo : -1 ≤ s.lf
  hi : s.lf ≤ 9223372036854775807
  ch0 : 0 ≤ s.ch
  ch1 : s.ch ≤ k

theorem St.OkAt.ok {s : St} {k : Nat} (h : s.OkAt k) (hk : k ≤ 1000) : s.Ok := ⟨h.lo, h.hi, h.ch0, by have := h.ch1; omega⟩

theorem change_lf (s : St) (act : St → St) (hl : ∀ t, (act t).lf = t.lf) (hc : ∀ t, (act t).ch = t.ch) {k : Nat} (h : s.OkAt k) : (s.change act).2.OkAt (k + 1) := by
  obtain ⟨h1, h2, h3, h4⟩ := h
  unfold St.change
  split
  · split
    · refine ⟨?_, ?_, ?_, ?_⟩ <;> simp only [hl, hc] <;> omega
    · exact ⟨h1, h2, h3, by show s.ch ≤ _; omega⟩
  · refine ⟨?_, ?_, ?_, ?_⟩ <;> simp only [hl, hc] <;> first | omega | (split <;> omega)

theorem step_ok {s : St} {o : Opn} {k : Nat} (h : s.OkAt k) (ha : o.a ≤ 9223372036854775807) : (s.step o).OkAt (k + 1) := by
  have h' : s.OkAt (k + 1) := ⟨h.lo, h.hi, h.ch0, by have := h.ch1; omega⟩
  unfold St.step
  split
  · unfold St.raise
    split
    · exact h'
    · split
      · exact h'
      · split
        · exact h'
        · exact change_lf s (fun t => { t with ix := putIx t.ix o.a.toNat o.b }) (fun _ => rfl) (fun _ => rfl) h
  · split
    · unfold St.lock
      split
      · exact h'
      · exact change_lf s (fun t => { t with lk := o.on }) (fun _ => rfl) (fun _ => rfl) h
    · split
      · refine ⟨?_, ?_, h'.ch0, h'.ch1⟩ <;> simp only [St.arm] <;> split <;> omega
      · split
        · exact ⟨by simp [St.boot], by simp [St.boot], h'.ch0, h'.ch1⟩
        · exact h'

theorem change_ix (s : St) (act : St → St) : (s.change act).2.ix = s.ix ∨ ∃ t : St, t.ix = s.ix ∧ (s.change act).2 = act t := by
  unfold St.change
  split
  · split
    · exact .inr ⟨{ s with lf := -1, dw := true, ch := s.ch + 1 }, rfl, rfl⟩
    · exact .inl rfl
  · exact .inr ⟨{ s with lf := if s.lf - 1 < -1 then -1 else s.lf - 1, ch := s.ch + 1 }, rfl, rfl⟩

/-- No index goes down; where one has turned it was raised to just that. -/
theorem step_ix (s : St) (o : Opn) (j : Nat) : (s.step o).ix j = s.ix j ∨ (s.ix j ≤ (s.step o).ix j ∧ o.kind = 1 ∧ o.a = j ∧ o.b = (s.step o).ix j) := by
  unfold St.step
  split
  · rename_i hk
    unfold St.raise
    split
    · exact .inl rfl
    · split
      · exact .inl rfl
      · rename_i hr
        split
        · exact .inl rfl
        · rename_i hlt
          rcases change_ix s (fun t => { t with ix := putIx t.ix o.a.toNat o.b }) with h | ⟨t, ht, h⟩
          · exact .inl (by rw [h])
          · rw [h]
            show putIx t.ix o.a.toNat o.b j = s.ix j ∨ (s.ix j ≤ putIx t.ix o.a.toNat o.b j ∧ o.kind = 1 ∧ o.a = j ∧ o.b = putIx t.ix o.a.toNat o.b j)
            unfold putIx
            rw [ht]
            by_cases e : j = o.a.toNat
            · rw [if_pos e]
              subst e
              exact .inr ⟨by omega, hk, by omega, rfl⟩
            · rw [if_neg e]
              exact .inl rfl
  · split
    · unfold St.lock
      split
      · exact .inl rfl
      · rcases change_ix s (fun t => { t with lk := o.on }) with h | ⟨t, ht, h⟩
        · exact .inl (by rw [h])
        · rw [h]
          exact .inl (by show t.ix j = s.ix j; rw [ht])
    · split
      · exact .inl rfl
      · split
        · exact .inl rfl
        · exact .inl rfl

section
variable {w : World}

/-- The list of steps in memory. -/
def OpsAt (w : World) (a : Option Addr) (len : Nat) (os : Nat → Opn) : Prop := ∀ i, i < len → (os i).a ≤ 9223372036854775807 ∧ ∃ bx off, a = some ⟨bx, off, none⟩ ∧ bx < w.heap.size ∧
  w.cell? ⟨bx, off + i * 4, none⟩ = some (.int .i64 (os i).kind) ∧ w.cell? ⟨bx, off + i * 4 + 1, none⟩ = some (.int .i64 (os i).a) ∧ w.cell? ⟨bx, off + i * 4 + 2, none⟩ = some (.int .i64 (os i).b) ∧ w.cell? ⟨bx, off + i * 4 + 3, none⟩ = some (.bool (os i).on)

theorem OpsAt.below {a : Option Addr} {len : Nat} {os : Nat → Opn} {w' : World} (h : OpsAt w a len os) (hb : Below w.heap.size w w') : OpsAt w' a len os := by
  intro i hi
  obtain ⟨h0, bx, off, hx, hl, h1, h2, h3, h4⟩ := h i hi
  exact ⟨h0, bx, off, hx, Nat.lt_of_lt_of_le hl hb.size, (hb.cell (p := ⟨bx, _, none⟩) hl).trans h1, (hb.cell (p := ⟨bx, _, none⟩) hl).trans h2, (hb.cell (p := ⟨bx, _, none⟩) hl).trans h3, (hb.cell (p := ⟨bx, _, none⟩) hl).trans h4⟩

/-- An array of 32 ints in block b. -/
structure ArrAt (w : World) (b : Nat) (f : Nat → Int) : Prop where
  lt : b < w.heap.size
  cell : ∀ i, i < 32 → w.cell? ⟨b, i, none⟩ = some (.int .i64 (f i))
  free : ∀ o, w.frozen? ⟨b, o, none⟩ = false

theorem ArrAt.kept {w' : World} {row : Option Nat} {b : Nat} {f : Nat → Int} (h : ArrAt w b f) (hg : w.grownBy w' row) (hne : some b ≠ row) : ArrAt w' b f := by
  have hb := hg.block b h.lt hne
  exact ⟨Nat.lt_of_lt_of_le h.lt hg.size, fun i hi => (World.cell?_of_block hb).trans (h.cell i hi), fun o => (World.frozen?_of_block hb).trans (h.free o)⟩

theorem ArrAt.alloc {b : Nat} {f : Nat → Int} (h : ArrAt w b f) (o : Obj) : ArrAt (w.alloc o) b f := h.kept (World.grownBy_alloc w o none) (by simp)

theorem ArrAt.set {b : Nat} {f : Nat → Int} (h : ArrAt w b f) (i : Nat) (hi : i < 32) (x : Int) : ArrAt (w.setCell ⟨b, i, none⟩ (.int .i64 x)) b (putIx f i x) :=
  ⟨by simpa using h.lt, fun j hj => by
    unfold putIx
    by_cases e : j = i
    · subst e; rw [if_pos rfl]; exact World.cell?_setCell_same _ _ _ (h.cell j hj)
    · rw [if_neg e]; exact (other_off (by omega)).trans (h.cell j hj), fun o => by rw [World.frozen?_setCell]; exact h.free o⟩

theorem ArrAt.congr {b : Nat} {f f' : Nat → Int} (h : ArrAt w b f) (e : ∀ i, i < 32 → f i = f' i) : ArrAt w b f' :=
  ⟨h.lt, fun i hi => by rw [← e i hi]; exact h.cell i hi, h.free⟩

theorem arr_new (w : World) (t : TypeId) : ArrAt (w.alloc (.cells #[.int .i64 0, .int .i64 0, .int .i64 0, .int .i64 0, .int .i64 0, .int .i64 0, .int .i64 0, .int .i64 0, .int .i64 0, .int .i64 0, .int .i64 0, .int .i64 0, .int .i64 0, .int .i64 0, .int .i64 0, .int .i64 0, .int .i64 0, .int .i64 0, .int .i64 0, .int .i64 0, .int .i64 0, .int .i64 0, .int .i64 0, .int .i64 0, .int .i64 0, .int .i64 0, .int .i64 0, .int .i64 0, .int .i64 0, .int .i64 0, .int .i64 0, .int .i64 0] t)) w.heap.size (fun _ => 0) := by
  refine ⟨by simp, fun i hi => ?_, fun o => World.frozen?_alloc_new _ _ _ _⟩
  rw [World.cell?_alloc_new]
  iterate 32 (rcases i with _ | i; · rfl)
  omega

/-- One step's own variable: four cells in block b. -/
structure OpAt (w : World) (b : Nat) (o : Opn) : Prop where
  k0 : w.cell? ⟨b, 0, none⟩ = some (.int .i64 o.kind)
  k1 : w.cell? ⟨b, 1, none⟩ = some (.int .i64 o.a)
  k2 : w.cell? ⟨b, 2, none⟩ = some (.int .i64 o.b)
  k3 : w.cell? ⟨b, 3, none⟩ = some (.bool o.on)

theorem OpAt.kept {w' : World} {row : Option Nat} {b : Nat} {o : Opn} (h : OpAt w b o) (hg : w.grownBy w' row) (hne : some b ≠ row) : OpAt w' b o :=
  ⟨hg.cell h.k0 hne, hg.cell h.k1 hne, hg.cell h.k2 hne, hg.cell h.k3 hne⟩

theorem har_cell {b j : Nat} {f g : Nat → Int} (h : ArrAt w b (fun i => if i < j then f i else g i)) (hj : j < 32) : w.cell? ⟨b, j, none⟩ = some (.int .i64 (g j)) := by
  rw [h.cell j hj, if_neg (Nat.lt_irrefl j)]

theorem arr_step {f g : Nat → Int} {j : Nat} {x : Int} (hx : x = f j) : ∀ i, i < 32 → putIx (fun i => if i < j then f i else g i) j x i = if i < j + 1 then f i else g i := by
  intro i _
  show (if i = j then x else if i < j then f i else g i) = _
  by_cases e : i = j
  · subst e
    rw [if_pos rfl, if_pos (by omega), hx]
  · rw [if_neg e]
    by_cases e2 : i < j
    · rw [if_pos e2, if_pos (by omega)]
    · rw [if_neg e2, if_neg (by omega)]

theorem op_new (w : World) (o : Opn) : OpAt (w.alloc (.cells #[.int .i64 o.kind, .int .i64 o.a, .int .i64 o.b, .bool o.on] 33)) w.heap.size o :=
  ⟨by rw [World.cell?_alloc_new]; rfl, by rw [World.cell?_alloc_new]; rfl, by rw [World.cell?_alloc_new]; rfl, by rw [World.cell?_alloc_new]; rfl⟩

theorem rises_out {a : Option Addr} {len cap : Nat} (h : 100 < len) :
    Calls Try.prog 4 #[.slice a len cap] w fun e w' => e = .returned (.bool true) ∧ Below w.heap.size w w' := by
  have hmk := make_32
  go_enter Try.func4, Try.ntmps4
  go_wp2_with (fail)
  refine (anchor_calls _).mono ?_
  rintro e w1 ⟨rfl, hb⟩
  have HB := Lib.hid hb
  clear hb
  go_wp2_with (fail)
  refine (new_calls (bs := List.replicate 32 0) false (by simp) (zeros_at w1 5)).mono ?_
  rintro e w2 ⟨b, g, cap, rfl, hs, hb⟩
  have HB2 := Lib.hid (HB.out.trans (((Below.refl w1.heap.size w1).alloc (Nat.le_refl _) _).trans (hb.mono (by simp)) |>.mono HB.out.size))
  clear hb hs
  go_wp2_with (fail)
  go_ret
  exact ⟨rfl, HB2.out⟩

set_option maxRecDepth 100000 in
set_option maxHeartbeats 4000000 in
theorem rises_walk {a : Option Addr} {len cap : Nat} (hlen : len ≤ 100) (os : Nat → Opn) (hos : OpsAt w a len os) :
    Calls Try.prog 4 #[.slice a len cap] w fun e w' => e = .returned (.bool true) ∧ Below w.heap.size w w' := by
  have hmk := make_32
  have Hos := Lib.hid hos
  clear hos
  go_enter Try.func4, Try.ntmps4
  go_wp2_with (fail)
  refine (anchor_calls _).mono ?_
  rintro e w1 ⟨rfl, hb⟩
  have HB := Lib.hid hb
  clear hb
  go_wp2_with (fail)
  refine (new_calls (bs := List.replicate 32 0) false (by simp) (zeros_at w1 5)).mono ?_
  rintro e w2 ⟨b, g, cp, rfl, hs, hb⟩
  have HB2 := Lib.hid (HB.out.trans (((Below.refl w1.heap.size w1).alloc (Nat.le_refl _) _).trans (hb.mono (by simp)) |>.mono HB.out.size))
  have hlt := hs.base_lt
  have hsz := HB.out.size
  simp only [World.size_alloc] at hlt
  have HL := Lib.hid (show w.heap.size ≤ b by omega)
  have HL2 := Lib.hid hs.at_.lt
  obtain ⟨base, hs1⟩ : ∃ base, Safe base w2 b g cp (List.replicate 32 0) (St.new false) := ⟨_, hs⟩
  have HS := Lib.hid hs1
  clear hb hs hs1 hlt hsz HB
  go_wp2_with (fail)
  have HA := Lib.hid (arr_new w2 31)
  have HS3 := Lib.hid (HS.out.alloc (.cells #[.int .i64 0, .int .i64 0, .int .i64 0, .int .i64 0, .int .i64 0, .int .i64 0, .int .i64 0, .int .i64 0, .int .i64 0, .int .i64 0, .int .i64 0, .int .i64 0, .int .i64 0, .int .i64 0, .int .i64 0, .int .i64 0, .int .i64 0, .int .i64 0, .int .i64 0, .int .i64 0, .int .i64 0, .int .i64 0, .int .i64 0, .int .i64 0, .int .i64 0, .int .i64 0, .int .i64 0, .int .i64 0, .int .i64 0, .int .i64 0, .int .i64 0, .int .i64 0] 31))
  have HB3 := Lib.hid (HB2.out.alloc HB2.out.size (.cells #[.int .i64 0, .int .i64 0, .int .i64 0, .int .i64 0, .int .i64 0, .int .i64 0, .int .i64 0, .int .i64 0, .int .i64 0, .int .i64 0, .int .i64 0, .int .i64 0, .int .i64 0, .int .i64 0, .int .i64 0, .int .i64 0, .int .i64 0, .int .i64 0, .int .i64 0, .int .i64 0, .int .i64 0, .int .i64 0, .int .i64 0, .int .i64 0, .int .i64 0, .int .i64 0, .int .i64 0, .int .i64 0, .int .i64 0, .int .i64 0, .int .i64 0, .int .i64 0] 31))
  have HW := Lib.hid (show w.heap.size ≤ w2.heap.size from HB2.out.size)
  clear HS HB2
  obtain ⟨bw, hbw⟩ : ∃ bw, bw = w2.heap.size := ⟨_, rfl⟩
  rw [← hbw] at HA HL2 HW ⊢
  clear hbw
  obtain ⟨w3, hw3⟩ : ∃ w3, w3 = w2.alloc (.cells #[.int .i64 0, .int .i64 0, .int .i64 0, .int .i64 0, .int .i64 0, .int .i64 0, .int .i64 0, .int .i64 0, .int .i64 0, .int .i64 0, .int .i64 0, .int .i64 0, .int .i64 0, .int .i64 0, .int .i64 0, .int .i64 0, .int .i64 0, .int .i64 0, .int .i64 0, .int .i64 0, .int .i64 0, .int .i64 0, .int .i64 0, .int .i64 0, .int .i64 0, .int .i64 0, .int .i64 0, .int .i64 0, .int .i64 0, .int .i64 0, .int .i64 0, .int .i64 0] 31) := ⟨_, rfl⟩
  rw [← hw3] at HA HS3 HB3 ⊢
  clear hw3
  go_loopg [37] len (fun q v wr => ∃ (k : Nat) (s : St), q + k = len ∧ v = .int .i64 k ∧ Safe base wr b g cp (List.replicate 32 0) s ∧ s.OkAt k ∧ ArrAt wr bw s.ix ∧ Below w.heap.size w wr)
  case atStart => exact ⟨0, St.new false, by omega, rfl, HS3.out, ⟨by simp [St.new], by simp [St.new], by simp [St.new], by simp [St.new]⟩, HA.out, HB3.out⟩
  case round =>
    obtain ⟨k, s, hk, rfl, hs, hok, har, hb⟩ := hrel
    have Hs := Lib.hid hs
    have Hok := Lib.hid hok
    have Har := Lib.hid har
    have Hb := Lib.hid hb
    have Hk := Lib.hid hk
    clear hs hok har hb HS3 HB3 HA
    by_cases hlt : k < len
    · obtain ⟨ha, bx, off, rfl, hbx, h0, h1, h2, h3⟩ := (Hos.out.below Hb.out) k hlt
      have Ho := Lib.hid ha
      clear hk ha
      have Hbx := Lib.hid hbx
      clear hbx
      go_upto_block 2 with (fail)
      obtain ⟨o, hoo⟩ : ∃ o, o = os k := ⟨_, rfl⟩
      rw [← hoo] at Ho ⊢
      have HOP := Lib.hid (op_new wr o)
      have HS4 := Lib.hid (Hs.out.alloc (.cells #[.int .i64 o.kind, .int .i64 o.a, .int .i64 o.b, .bool o.on] 33))
      have HA4 := Lib.hid (Har.out.alloc (.cells #[.int .i64 o.kind, .int .i64 o.a, .int .i64 o.b, .bool o.on] 33))
      have HB4 := Lib.hid (Hb.out.alloc Hb.out.size (.cells #[.int .i64 o.kind, .int .i64 o.a, .int .i64 o.b, .bool o.on] 33))
      have HBO := Lib.hid (show b < wr.heap.size ∧ bw < wr.heap.size from ⟨Hs.out.at_.lt, Har.out.lt⟩)
      clear hoo Hs Har Hb h0 h1 h2 h3 Hbx
      obtain ⟨bo, hbo⟩ : ∃ bo, bo = wr.heap.size := ⟨_, rfl⟩
      rw [← hbo] at HOP HBO ⊢
      clear hbo
      obtain ⟨w4, hw4⟩ : ∃ w4, w4 = wr.alloc (.cells #[.int .i64 o.kind, .int .i64 o.a, .int .i64 o.b, .bool o.on] 33) := ⟨_, rfl⟩
      rw [← hw4] at HOP HS4 HA4 HB4 ⊢
      clear hw4
      go_cut [] (fun wc => Safe base wc b g cp (List.replicate 32 0) (s.step o) ∧ ArrAt wc bw s.ix ∧ OpAt wc bo o ∧ Below w.heap.size w wc)
      case first =>
        have hne : some bw ≠ some b := by have := HL2.out; simp; omega
        have hne2 : some bo ≠ some b := by have := HBO.out.1; simp; omega
        have Hne := Lib.hid hne
        have Hne2 := Lib.hid hne2
        have hop1 := HOP.out.k1
        have hop2 := HOP.out.k2
        have hop3 := HOP.out.k3
        clear hne hne2
        by_cases c1 : o.kind = 1
        · have C := Lib.hid c1
          have c1b := beq_iff_eq.2 c1
          clear c1
          go_wp2_with (fail)
          refine (raise_calls HS4.out (Hok.out.ok (by omega)) o.a o.b).mono ?_
          rintro e w5 ⟨rfl, hs, hg⟩
          have HR := Lib.hid (show Safe base w5 b g cp (List.replicate 32 0) (s.step o) ∧ ArrAt w5 bw s.ix ∧ OpAt w5 bo o ∧ Below w.heap.size w w5 from
            ⟨by simp only [St.step, if_pos C.out]; exact hs, HA4.out.kept hg Hne.out, HOP.out.kept hg Hne2.out, HB4.out.grown hg HB4.out.size (fun k e => by cases e; exact HL.out)⟩)
          clear hs hg
          go_wp2_with (fail)
          go_meet
          case rel => exact HR.out
        · have C := Lib.hid c1
          have c1b := beq_eq_false_iff_ne.2 c1
          clear c1
          by_cases c2 : o.kind = 2
          · have C2 := Lib.hid c2
            have c2b := beq_iff_eq.2 c2
            clear c2
            go_wp2_with (fail)
            refine (lock_calls HS4.out (Hok.out.ok (by omega)) o.on).mono ?_
            rintro e w5 ⟨rfl, hs, hg⟩
            have HR := Lib.hid (show Safe base w5 b g cp (List.replicate 32 0) (s.step o) ∧ ArrAt w5 bw s.ix ∧ OpAt w5 bo o ∧ Below w.heap.size w w5 from
              ⟨by simp only [St.step, if_neg C.out, if_pos C2.out]; exact hs, HA4.out.kept hg Hne.out, HOP.out.kept hg Hne2.out, HB4.out.grown hg HB4.out.size (fun k e => by cases e; exact HL.out)⟩)
            clear hs hg
            go_wp2_with (fail)
            go_meet
            case rel => exact HR.out
          · have C2 := Lib.hid c2
            have c2b := beq_eq_false_iff_ne.2 c2
            clear c2
            by_cases c3 : o.kind = 3
            · have C3 := Lib.hid c3
              have c3b := beq_iff_eq.2 c3
              clear c3
              go_wp2_with (fail)
              refine (armed_calls HS4.out o.a o.on).mono ?_
              rintro e w5 ⟨rfl, hs, hg⟩
              have HR := Lib.hid (show Safe base w5 b g cp (List.replicate 32 0) (s.step o) ∧ ArrAt w5 bw s.ix ∧ OpAt w5 bo o ∧ Below w.heap.size w w5 from
                ⟨by simp only [St.step, if_neg C.out, if_neg C2.out, if_pos C3.out]; exact hs, HA4.out.kept hg Hne.out, HOP.out.kept hg Hne2.out, HB4.out.grown hg HB4.out.size (fun k e => by cases e; exact HL.out)⟩)
              clear hs hg
              go_wp2_with (fail)
              go_meet
              case rel => exact HR.out
            · have C3 := Lib.hid c3
              have c3b := beq_eq_false_iff_ne.2 c3
              clear c3
              by_cases c4 : o.kind = 4
              · have C4 := Lib.hid c4
                have c4b := beq_iff_eq.2 c4
                clear c4
                go_wp2_with (fail)
                refine (booted_calls HS4.out).mono ?_
                rintro e w5 ⟨rfl, hs, hg⟩
                have HR := Lib.hid (show Safe base w5 b g cp (List.replicate 32 0) (s.step o) ∧ ArrAt w5 bw s.ix ∧ OpAt w5 bo o ∧ Below w.heap.size w w5 from
                  ⟨by simp only [St.step, if_neg C.out, if_neg C2.out, if_neg C3.out, if_pos C4.out]; exact hs, HA4.out.kept hg Hne.out, HOP.out.kept hg Hne2.out, HB4.out.grown hg HB4.out.size (fun k e => by cases e; exact HL.out)⟩)
                clear hs hg
                go_wp2_with (fail)
                go_meet
                case rel => exact HR.out
              · have C4 := Lib.hid c4
                have c4b := beq_eq_false_iff_ne.2 c4
                clear c4
                go_wp2_with (fail)
                go_meet
                case rel => exact ⟨by simp only [St.step, if_neg C.out, if_neg C2.out, if_neg C3.out, if_neg C4.out]; exact HS4.out, HA4.out, HOP.out, HB4.out⟩
      case rest =>
        obtain ⟨hs, har, hop, hb⟩ := hcut
        have Hst := Lib.hid (step_ix s o)
        have Hok2 := Lib.hid (step_ok Hok.out Ho.out)
        have Har := Lib.hid (har.congr (f' := fun i => if i < 0 then (s.step o).ix i else s.ix i) (fun i _ => by simp))
        have Hs := Lib.hid hs
        have Hop := Lib.hid hop
        have Hb := Lib.hid hb
        clear hs har hop hb HOP HS4 HA4 HB4 Ho Hok
        obtain ⟨s', hs'⟩ : ∃ s', s' = s.step o := ⟨_, rfl⟩
        rw [← hs'] at Hst Hok2 Har Hs
        clear hs'
        obtain ⟨gq, rfl⟩ : ∃ gq, gq = gk := ⟨_, rfl⟩
        go_wp2_with (fail)
        go_loopg [69] 32 (fun q v wi => ∃ j : Nat, q + j = 32 ∧ v = .int .i64 j ∧ Safe base wi b g cp (List.replicate 32 0) s' ∧ ArrAt wi bw (fun i => if i < j then s'.ix i else s.ix i) ∧ OpAt wi bo o ∧ Below w.heap.size w wi)
        case atStart => exact ⟨0, by omega, rfl, Hs.out, Har.out, Hop.out, Hb.out⟩
        case round =>
          obtain ⟨j, hj, rfl, hs, har, hop, hb⟩ := hrel
          clear Hs Har Hop Hb
          have Hs := Lib.hid hs
          have Har := Lib.hid har
          have Hop := Lib.hid hop
          have Hb := Lib.hid hb
          have Hj := Lib.hid hj
          clear hs har hop hb hj
          by_cases hlj : j < 32
          · have hw := har_cell Har.out hlj
            have hwf := Har.out.free j
            have ho0 := Hop.out.k0
            have ho1 := Hop.out.k1
            have ho2 := Hop.out.k2
            obtain ⟨gj, rfl⟩ : ∃ gj, gk = gj + 1 := ⟨gk - 1, by have := Hj.out; omega⟩
            by_cases he : s'.ix j = s.ix j
            · have He := Lib.hid he
              go_wp2_with (fail)
              refine (index_good Hs.out.at_ j hlj).mono ?_
              rw [he]
              clear he
              rintro e w5 ⟨rfl, rfl⟩
              have HR := Lib.hid (show Safe base (wr.setCell ⟨bw, j, none⟩ (.int .i64 (s.ix j))) b g cp (List.replicate 32 0) s' ∧ ArrAt (wr.setCell ⟨bw, j, none⟩ (.int .i64 (s.ix j))) bw (fun i => if i < j + 1 then s'.ix i else s.ix i) ∧ OpAt (wr.setCell ⟨bw, j, none⟩ (.int .i64 (s.ix j))) bo o ∧ Below w.heap.size w (wr.setCell ⟨bw, j, none⟩ (.int .i64 (s.ix j))) from by
                have hg := Lib.grownBy_setB (World.grownBy.refl wr (some bw)) j (.int .i64 (s.ix j))
                have h1 := HL2.out
                have h2 := HBO.out.2
                have h3 := Hs.out.lt
                exact ⟨Hs.out.kept hg (by simp; omega) (by simp; omega), (Har.out.set j hlj (s.ix j)).congr (arr_step He.out.symm), Hop.out.kept hg (by simp; omega), Hb.out.setCell (p := ⟨bw, j, none⟩) HW.out _⟩)
              clear Hs Har Hop Hb
              go_wp2_with (fail)
              go_roundg gj
              case measure => omega
              case rel => exact ⟨j + 1, by have := Hj.out; omega, by go_num, HR.out⟩
            · obtain ⟨h1, h2, h3, h4⟩ := (Hst.out j).resolve_left he
              have t1 : decide (s'.ix j < s.ix j) = false := decide_eq_false (by omega)
              have t2 : (s'.ix j != s.ix j) = true := by rw [bne_iff_ne]; exact he
              have t3 : (o.kind != 1) = false := by rw [h2]; rfl
              have t4 : (o.a != (j : Int)) = false := by rw [h3]; exact bne_self_eq_false _
              have t5 : (o.b != s'.ix j) = false := by rw [h4]; exact bne_self_eq_false _
              clear he h1 h2 h3 h4
              go_wp2_with (fail)
              refine (index_good Hs.out.at_ j hlj).mono ?_
              rintro e w5 ⟨rfl, rfl⟩
              have HR := Lib.hid (show Safe base (wr.setCell ⟨bw, j, none⟩ (.int .i64 (s'.ix j))) b g cp (List.replicate 32 0) s' ∧ ArrAt (wr.setCell ⟨bw, j, none⟩ (.int .i64 (s'.ix j))) bw (fun i => if i < j + 1 then s'.ix i else s.ix i) ∧ OpAt (wr.setCell ⟨bw, j, none⟩ (.int .i64 (s'.ix j))) bo o ∧ Below w.heap.size w (wr.setCell ⟨bw, j, none⟩ (.int .i64 (s'.ix j))) from by
                have hg := Lib.grownBy_setB (World.grownBy.refl wr (some bw)) j (.int .i64 (s'.ix j))
                have h1 := HL2.out
                have h2 := HBO.out.2
                have h3 := Hs.out.lt
                exact ⟨Hs.out.kept hg (by simp; omega) (by simp; omega), (Har.out.set j hlj (s'.ix j)).congr (arr_step rfl), Hop.out.kept hg (by simp; omega), Hb.out.setCell (p := ⟨bw, j, none⟩) HW.out _⟩)
              clear Hs Har Hop Hb
              go_wp2_with (fail)
              go_roundg gj
              case measure => omega
              case rel => exact ⟨j + 1, by have := Hj.out; omega, by go_num, HR.out⟩
          · obtain rfl : j = 32 := by have := Hj.out; omega
            have HR := Lib.hid (Har.out.congr (f' := s'.ix) (fun i hi => if_pos hi))
            clear Har Hop
            go_wp2_with (fail)
            go_roundg (gq - 1)
            case measure => have := Hk.out; omega
            case rel => exact ⟨k + 1, s', by have := Hk.out; omega, by go_num, Hs.out, Hok2.out, HR.out, Hb.out⟩
    · clear hk
      go_wp2_with (fail)
      go_ret
      exact ⟨rfl, Hb.out⟩
end
end Go.Proofs.Ytnhkeenhaaeknaa
